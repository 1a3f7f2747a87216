/- branch's outcome as bytes: one row of one pair. -/
import Derived.Test.YtncchbcoldgpbaaKpM
import Derived.Test.YtncchbcoldgpbaaQaM
import Derived.Test.YtncchbcoldgpbaaQbM
import Derived.Test.YtncchbcoldgpbaaOrdU
import Derived.Deep.Cut
import Derived.Test.YtncchbcoldgpbaaQRecXO
import Derived.Test.YtncchbcoldgpbaaPkSplit
open List (getElem_toArray getElem_cons_succ getElem_cons_zero setIfInBounds_toArray set_cons_zero set_cons_succ)
namespace Go.Proofs.Ytncchbcoldgpbaa
open Go.RowKit
set_option linter.unusedVariables false
set_option linter.unusedSimpArgs false

def xr (k v : List UInt8) : RcS := { zeroR with kind := 4, ws := [⟨k, v, false⟩], reply := v }
/-- the bytes of an outcome of one pair without value -/
def replyY (k : List UInt8) : List UInt8 := joinB [numB 0, numB 0, recY (xr k [])]
theorem packNum1 {w : World} {g n : Nat} (h : Blk w g 22 #[.int .u64 (n : Int)]) (hn : U64 n) :
    Calls Try.prog 48 #[.slice (some ⟨g, 0, none⟩) 1 1] w fun e w' => ∃ u, e = .returned u ∧ OwnB w' w.heap.size u (numB n) ∧ Chg Non w w' := by
  have hr : RdU w (fun _ => True) (.slice (some ⟨g, 0, none⟩) 1 1) [n] := by
    refine ⟨fun m hm => by rw [List.mem_singleton.1 hm]; exact hn, rfl, _, 1, rfl, Nat.le_refl _, by simp [maxLen], fun _ => ⟨_, rfl, trivial, fun j u hu => ?_⟩⟩
    rw [add_none, Nat.zero_add, h.cell]
    match j, hu with
    | 0, hu => exact hu
    | j + 1, hu => simp at hu
  refine (packNumber hr (by simp)).mono ?_
  rintro e w' ⟨u, rfl, hu, hc⟩
  rw [numsB_one] at hu
  exact ⟨u, rfl, hu, hc⟩
theorem ownBB2 {w w1 : World} {base : Nat} {u1 u2 : Value} {l1 l2 : List UInt8} (h1 : OwnB w base u1 l1) (h2 : OwnB w base u2 l2) (hb : base ≤ w.heap.size) :
    OwnBB (w.alloc (.cells #[u1, u2] 26)) base (fun b => base ≤ b) (.slice (some ⟨w.heap.size, 0, none⟩) 2 2) [l1, l2] := by
  have hc := (Chg.refl Non w).alloc (.cells #[u1, u2] 26)
  refine ⟨[u1, u2], rfl, World.ownsRow_lit (size := 1) w #[u1, u2] 2 hb (by simp [maxLen]) rfl, fun k x l hx hl => ?_⟩
  have key : ∀ {u : Value} {l : List UInt8}, OwnB w base u l → RdB (w.alloc (.cells #[u1, u2] 26)) (fun b => base ≤ b ∧ b < (w.alloc (.cells #[u1, u2] 26)).heap.size ∧ (Value.slice (some ⟨w.heap.size, 0, none⟩) 2 2).ownBlock ≠ some b) u l := fun h =>
    (h.rdB.c0 hc).mono fun k hk => ⟨hk.1, Nat.lt_of_lt_of_le hk.2 hc.size, fun e => by simp [Value.ownBlock] at e; omega⟩
  match k, hx, hl with
  | 0, hx, hl => simp at hx hl; subst hx; subst hl; exact key h1
  | 1, hx, hl => simp at hx hl; subst hx; subst hl; exact key h2
  | k + 2, hx, hl => simp at hx
theorem rdV_one3 {w : World} {g : Nat} {ty : TypeId} {a b c : Value} (h : Blk w g ty #[a, b, c]) : RdV w (fun _ => True) 3 (.slice (some ⟨g, 0, none⟩) 1 1) 1 [a, b, c] :=
  ⟨rfl, _, 1, rfl, Nat.le_refl _, by simp [maxLen], fun _ => ⟨_, rfl, trivial, fun j y hyj => by
    rw [add_none, Nat.zero_add, h.cell]
    rw [← hyj]
    exact List.getElem?_toArray⟩⟩
theorem xr_sm' {k : List UInt8} (h : k.length ≤ 1000000) : RcSm (xr k []) :=
  ⟨by simp only [xr, triW, List.map_cons, List.map_nil, List.sum_cons, List.sum_nil, List.length_nil]; omega, (by decide : triW [] ≤ 1048576), (by decide : 1 ≤ 1048576), (by decide : 0 ≤ 1048576), (by decide : 0 ≤ 1048576), (by decide : 0 ≤ 1048576), (by decide : 0 ≤ 1048576)⟩
theorem recY_xr' {k : List UInt8} (h : k.length ≤ 1000000) : (recY (xr k [])).length ≤ 900000000 := by
  have h1 := joinB_len ([kiB 4] :: [txB (xr k []), triB [⟨k, [], false⟩], []])
  have h2 := joinB_len [flB false, k, []]
  have h3 := txB_len (xr k [])
  have h4 : recY (xr k []) = joinB ([kiB 4] :: [txB (xr k []), triB [⟨k, [], false⟩], []]) := rfl
  have h5 : triB [⟨k, [], false⟩] = joinB [flB false, k, []] := rfl
  have h6 : (flB false).length = 1 := rfl
  rw [h4]
  rw [h5] at h1 ⊢
  simp only [List.map_cons, List.map_nil, List.sum_cons, List.sum_nil, List.length_cons, List.length_nil, h6] at h1 h2
  omega
theorem replyY_len {k : List UInt8} (h : k.length ≤ 1000000) : (replyY k).length ≤ 10000000000 := by
  have h1 := joinB_len [numB 0, numB 0, recY (xr k [])]
  have h2 := recY_xr' h
  have h3 : (numB 0).length = 1 := rfl
  simp only [List.map_cons, List.map_nil, List.sum_cons, List.sum_nil, List.length_cons, List.length_nil, h3] at h1
  unfold replyY
  omega
theorem u64_0' : U64 0 := by unfold U64; decide

set_option maxHeartbeats 16000000 in
set_option maxRecDepth 100000 in
theorem outReply {v : Value} {key : List UInt8} {F : Nat → Prop} {w : World} (hr : RdRows w F v [[(key, [])]]) (hkl : key.length ≤ 1000000) (hF : ∀ k, F k → k < w.heap.size) :
    Calls Try.prog 21 #[.agg #[.int .i64 0, .int .i64 0, v, .slice none 0 0]] w fun e w' => ∃ u, e = .returned u ∧ OwnB w' w.heap.size u (replyY key) ∧ Chg Non w w' := by
  obtain ⟨A, c, rfl, _, _⟩ : ∃ A c, v = .slice A 1 c ∧ 1 ≤ c ∧ c ≤ maxLen := by obtain ⟨xs, h1, h2, h3⟩ := hr; exact h2.shape
  have hX := Blk.new w 43 #[.int .i64 0, .int .i64 0, .slice A 1 c, .slice none 0 0]
  have hcA := (Chg.refl Non w).alloc (.cells #[.int .i64 0, .int .i64 0, .slice A 1 c, .slice none 0 0] 43)
  go_enter Try.func21, Try.ntmps21
  go_upto_region 1 with fail
  obtain ⟨p, hp⟩ : ∃ p, p = w.heap.size := ⟨_, rfl⟩
  rw [← hp] at hX ⊢
  have HP := hide hp
  clear hp
  generalize hw0 : World.alloc w _ = w0
  rw [show w.alloc (.cells #[.int .i64 0, .int .i64 0, .slice A 1 c, .slice none 0 0] 43) = w0 from hw0] at hX hcA
  clear hw0
  have hpl := hX.lt
  have hr0 := hr.chg hcA fun _ _ h => h
  have hwz : IntKind.u64.wrap 0 = 0 := by decide
  obtain ⟨S, hSd⟩ : ∃ S : World → Prop, ∀ w', S w' ↔ (w'.cell? ⟨p, 0, none⟩ = some (.int .i64 0) ∧ w'.cell? ⟨p, 1, none⟩ = some (.int .i64 0)) := ⟨_, fun _ => Iff.rfl⟩
  have HSd := hide hSd
  have HSB := hide (fun (w' : World) (h : Blk w' p 43 #[.int .i64 0, .int .i64 0, .slice A 1 c, .slice none 0 0]) => (hSd w').2 ⟨h.cell 0, h.cell 1⟩)
  have HS := hide (HSB.out w0.drew hX)
  clear hSd
  go_cut [3] from 9 (fun v3 wx => OwnBB wx w0.heap.size (fun b => w0.heap.size ≤ b) v3 [numB 0, numB 0] ∧ Chg Non w0 wx)
  case first =>
    refine wp_region_T S 99 (by kernel_rfl) ?_
    refine AnyT.take (i := 0) (v := ?_) rfl (by kernel_rfl) (by kernel_rfl) (fun _ _ _ h => h) (by kernel_rfl) (by kernel_rfl) (Or.inl ⟨by rfl, ?_⟩) HS.out ?_
    rotate_left
    · (intro w9 h9; first | (go_simp; with_reducible rfl) | (obtain ⟨y0, y1⟩ := (HSd.out _).1 h9; go_simp; try with_reducible rfl))
    try simp only [getElem_toArray, getElem_cons_succ, getElem_cons_zero, Act.put, setIfInBounds_toArray, set_cons_zero, set_cons_succ]
    refine AnyT.take (i := 1) (v := ?_) rfl (by kernel_rfl) (by kernel_rfl) (fun _ _ _ h => h) (by kernel_rfl) (by kernel_rfl) (Or.inl ⟨by rfl, ?_⟩) HS.out ?_
    rotate_left
    · (intro w9 h9; first | (go_simp; with_reducible rfl) | (obtain ⟨y0, y1⟩ := (HSd.out _).1 h9; go_simp; try with_reducible rfl))
    try simp only [getElem_toArray, getElem_cons_succ, getElem_cons_zero, Act.put, setIfInBounds_toArray, set_cons_zero, set_cons_succ]
    refine AnyT.take (i := 2) (v := ?_) rfl (by kernel_rfl) (by kernel_rfl) (fun _ _ _ h => h) (by kernel_rfl) (by kernel_rfl) (Or.inl ⟨by rfl, ?_⟩) HS.out ?_
    rotate_left
    · (intro w9 h9; first | (go_simp; with_reducible rfl) | (obtain ⟨y0, y1⟩ := (HSd.out _).1 h9; go_simp; try with_reducible rfl))
    try simp only [getElem_toArray, getElem_cons_succ, getElem_cons_zero, Act.put, setIfInBounds_toArray, set_cons_zero, set_cons_succ]
    refine AnyT.take (i := 5) (v := ?_) rfl (by kernel_rfl) (by kernel_rfl) (fun _ _ _ h => h) (by kernel_rfl) (by kernel_rfl) (Or.inl ⟨by rfl, ?_⟩) HS.out ?_
    rotate_left
    · (intro w9 h9; first | (go_simp; with_reducible rfl) | (obtain ⟨y0, y1⟩ := (HSd.out _).1 h9; go_simp; try with_reducible rfl))
    try simp only [getElem_toArray, getElem_cons_succ, getElem_cons_zero, Act.put, setIfInBounds_toArray, set_cons_zero, set_cons_succ]
    refine AnyT.take (i := 6) (v := ?_) rfl (by kernel_rfl) (by kernel_rfl) (fun _ _ _ h => h) (by kernel_rfl) (by kernel_rfl) (Or.inl ⟨by rfl, ?_⟩) HS.out ?_
    rotate_left
    · (intro w9 h9; first | (go_simp; with_reducible rfl) | (obtain ⟨y0, y1⟩ := (HSd.out _).1 h9; go_simp; try with_reducible rfl))
    try simp only [getElem_toArray, getElem_cons_succ, getElem_cons_zero, Act.put, setIfInBounds_toArray, set_cons_zero, set_cons_succ]
    refine AnyT.take (i := 7) (v := ?_) rfl (by kernel_rfl) (by kernel_rfl) (fun _ _ _ h => h) (by kernel_rfl) (by kernel_rfl) (Or.inl ⟨by rfl, ?_⟩) HS.out ?_
    rotate_left
    · (intro w9 h9; first | (go_simp; with_reducible rfl) | (obtain ⟨y0, y1⟩ := (HSd.out _).1 h9; go_simp; try with_reducible rfl))
    try simp only [getElem_toArray, getElem_cons_succ, getElem_cons_zero, Act.put, setIfInBounds_toArray, set_cons_zero, set_cons_succ]
    have hcx0 : Chg Non w0 w0.drew := (Chg.refl Non w0).drew
    have hXx0 : Blk w0.drew p 43 #[.int .i64 0, .int .i64 0, .slice A 1 c, .slice none 0 0] := hX
    generalize World.drew w0 = x0 at hcx0 hXx0 HS ⊢
    clear HS
    refine AnyT.pair (i := 3) (j := 8) (by kernel_rfl) rfl rfl (fun K hK => ?_) (fun K hK => ?_)
    · rw [if_pos (by rfl)]
      try simp only [getElem_toArray, getElem_cons_succ, getElem_cons_zero, Act.put, setIfInBounds_toArray, set_cons_zero, set_cons_succ]
      go_simp
      have hdx1 := (Chg.refl Non x0).alloc (.cells #[.int .u64 0] 22)
      have ha := Blk.new x0 22 #[.int .u64 0]
      obtain ⟨ga, hga⟩ : ∃ g, g = x0.heap.size := ⟨_, rfl⟩
      rw [← hga] at ha ⊢
      generalize hww : World.alloc x0 _ = x1
      rw [show x0.alloc (.cells #[.int .u64 0] 22) = x1 from hww] at hdx1 ha
      clear hww hga
      have hcx1 := hcx0.trans0 hdx1
      have hXx1 := hXx0.c0 hdx1
      refine hK.out _ _ (fun _ => HSB.out x1 hXx1) ?_
      clear hK K
      try simp only [getElem_toArray, getElem_cons_succ, getElem_cons_zero, Act.put, setIfInBounds_toArray, set_cons_zero, set_cons_succ]
      refine AnyT.pair (i := 4) (j := 8) (by kernel_rfl) rfl rfl (fun K hK => ?_) (fun K hK => ?_)
      · rw [if_pos (by rfl)]
        try simp only [getElem_toArray, getElem_cons_succ, getElem_cons_zero, Act.put, setIfInBounds_toArray, set_cons_zero, set_cons_succ]
        go_wp2_with (go_at_call 48; refine (packNum1 (n := 0) ha u64_0').mono ?_; rintro e x2 ⟨u1, rfl, hu1, hdx2⟩)
        obtain ⟨U1, m1, k1, rfl⟩ : ∃ A m c, u1 = .slice A m c := hu1.shapeH
        replace hu1 := hu1.low (b' := w0.heap.size) hcx1.size
        have hcx2 := hcx1.trans0 hdx2
        have hXx2 := hXx1.c0 hdx2
        replace ha := ha.c0 hdx2
        refine hK.out _ _ (fun _ => HSB.out x2 hXx2) ?_
        clear hK K
        try simp only [getElem_toArray, getElem_cons_succ, getElem_cons_zero, Act.put, setIfInBounds_toArray, set_cons_zero, set_cons_succ]
        refine AnyT.one (i := 8) (by kernel_rfl) rfl (fun K hK => ?_)
        rw [if_pos (by rfl)]
        try simp only [getElem_toArray, getElem_cons_succ, getElem_cons_zero, Act.put, setIfInBounds_toArray, set_cons_zero, set_cons_succ]
        go_simp
        have hdx3 := (Chg.refl Non x2).alloc (.cells #[.int .u64 0] 22)
        have hb := Blk.new x2 22 #[.int .u64 0]
        obtain ⟨gb, hgb⟩ : ∃ g, g = x2.heap.size := ⟨_, rfl⟩
        rw [← hgb] at hb ⊢
        generalize hww : World.alloc x2 _ = x3
        rw [show x2.alloc (.cells #[.int .u64 0] 22) = x3 from hww] at hdx3 hb
        clear hww hgb
        have hcx3 := hcx2.trans0 hdx3
        have hXx3 := hXx2.c0 hdx3
        replace ha := ha.c0 hdx3
        replace hu1 := hu1.chg hdx3 fun _ _ h => h
        refine hK.out _ _ (fun _ => HSB.out x3 hXx3) ?_
        clear hK K
        try simp only [getElem_toArray, getElem_cons_succ, getElem_cons_zero, Act.put, setIfInBounds_toArray, set_cons_zero, set_cons_succ]
        refine AnyT.one (i := 9) (by kernel_rfl) rfl (fun K hK => ?_)
        rw [if_pos (by rfl)]
        try simp only [getElem_toArray, getElem_cons_succ, getElem_cons_zero, Act.put, setIfInBounds_toArray, set_cons_zero, set_cons_succ]
        go_wp2_with (go_at_call 48; refine (packNum1 (n := 0) hb u64_0').mono ?_; rintro e x4 ⟨u2, rfl, hu2, hdx4⟩)
        obtain ⟨U2, m2, k2, rfl⟩ : ∃ A m c, u2 = .slice A m c := hu2.shapeH
        replace hu2 := hu2.low (b' := w0.heap.size) hcx3.size
        have hcx4 := hcx3.trans0 hdx4
        have hXx4 := hXx3.c0 hdx4
        replace ha := ha.c0 hdx4
        replace hb := hb.c0 hdx4
        replace hu1 := hu1.chg hdx4 fun _ _ h => h
        refine hK.out _ _ (fun _ => HSB.out x4 hXx4) ?_
        clear hK K
        try simp only [getElem_toArray, getElem_cons_succ, getElem_cons_zero, Act.put, setIfInBounds_toArray, set_cons_zero, set_cons_succ]
        refine AnyT.one (i := 10) (by kernel_rfl) rfl (fun K hK => ?_)
        rw [if_pos (by rfl)]
        try simp only [getElem_toArray, getElem_cons_succ, getElem_cons_zero, Act.put, setIfInBounds_toArray, set_cons_zero, set_cons_succ]
        go_simp
        have hO := ownBB2 (w1 := x4) hu1 hu2 hcx4.size
        have hdx5 := (Chg.refl Non x4).alloc (.cells #[.slice U1 m1 k1, .slice U2 m2 k2] 26)
        generalize hww : World.alloc x4 _ = x5
        rw [show x4.alloc (.cells #[.slice U1 m1 k1, .slice U2 m2 k2] 26) = x5 from hww] at hdx5 hO
        clear hww
        have hcx5 := hcx4.trans0 hdx5
        have hXx5 := hXx4.c0 hdx5
        replace ha := ha.c0 hdx5
        replace hb := hb.c0 hdx5
        replace hu1 := hu1.chg hdx5 fun _ _ h => h
        replace hu2 := hu2.chg hdx5 fun _ _ h => h
        refine hK.out _ _ (fun _ => HSB.out x5 hXx5) ?_
        clear hK K
        try simp only [getElem_toArray, getElem_cons_succ, getElem_cons_zero, Act.put, setIfInBounds_toArray, set_cons_zero, set_cons_succ]
        refine AnyT.take (i := 11) (v := ?_) rfl (by kernel_rfl) (by kernel_rfl) (fun _ _ _ h => h) (by kernel_rfl) (by kernel_rfl) (Or.inl ⟨by rfl, ?_⟩) (HSB.out x5 hXx5) ?_
        rotate_left
        · (intro w9 h9; go_simp; with_reducible rfl)
        try simp only [getElem_toArray, getElem_cons_succ, getElem_cons_zero, Act.put, setIfInBounds_toArray, set_cons_zero, set_cons_succ]
        refine AnyT.nil (by kernel_rfl) ?_
        go_wp2_with fail
        go_meet
        exact ⟨hO, hcx5⟩
      · rw [if_pos (by rfl)]
        try simp only [getElem_toArray, getElem_cons_succ, getElem_cons_zero, Act.put, setIfInBounds_toArray, set_cons_zero, set_cons_succ]
        go_simp
        have hdx2 := (Chg.refl Non x1).alloc (.cells #[.int .u64 0] 22)
        have hb := Blk.new x1 22 #[.int .u64 0]
        obtain ⟨gb, hgb⟩ : ∃ g, g = x1.heap.size := ⟨_, rfl⟩
        rw [← hgb] at hb ⊢
        generalize hww : World.alloc x1 _ = x2
        rw [show x1.alloc (.cells #[.int .u64 0] 22) = x2 from hww] at hdx2 hb
        clear hww hgb
        have hcx2 := hcx1.trans0 hdx2
        have hXx2 := hXx1.c0 hdx2
        replace ha := ha.c0 hdx2
        refine hK.out _ _ (fun _ => HSB.out x2 hXx2) ?_
        clear hK K
        try simp only [getElem_toArray, getElem_cons_succ, getElem_cons_zero, Act.put, setIfInBounds_toArray, set_cons_zero, set_cons_succ]
        refine AnyT.one (i := 4) (by kernel_rfl) rfl (fun K hK => ?_)
        rw [if_pos (by rfl)]
        try simp only [getElem_toArray, getElem_cons_succ, getElem_cons_zero, Act.put, setIfInBounds_toArray, set_cons_zero, set_cons_succ]
        go_wp2_with (go_at_call 48; refine (packNum1 (n := 0) ha u64_0').mono ?_; rintro e x3 ⟨u1, rfl, hu1, hdx3⟩)
        obtain ⟨U1, m1, k1, rfl⟩ : ∃ A m c, u1 = .slice A m c := hu1.shapeH
        replace hu1 := hu1.low (b' := w0.heap.size) hcx2.size
        have hcx3 := hcx2.trans0 hdx3
        have hXx3 := hXx2.c0 hdx3
        replace ha := ha.c0 hdx3
        replace hb := hb.c0 hdx3
        refine hK.out _ _ (fun _ => HSB.out x3 hXx3) ?_
        clear hK K
        try simp only [getElem_toArray, getElem_cons_succ, getElem_cons_zero, Act.put, setIfInBounds_toArray, set_cons_zero, set_cons_succ]
        refine AnyT.one (i := 9) (by kernel_rfl) rfl (fun K hK => ?_)
        rw [if_pos (by rfl)]
        try simp only [getElem_toArray, getElem_cons_succ, getElem_cons_zero, Act.put, setIfInBounds_toArray, set_cons_zero, set_cons_succ]
        go_wp2_with (go_at_call 48; refine (packNum1 (n := 0) hb u64_0').mono ?_; rintro e x4 ⟨u2, rfl, hu2, hdx4⟩)
        obtain ⟨U2, m2, k2, rfl⟩ : ∃ A m c, u2 = .slice A m c := hu2.shapeH
        replace hu2 := hu2.low (b' := w0.heap.size) hcx3.size
        have hcx4 := hcx3.trans0 hdx4
        have hXx4 := hXx3.c0 hdx4
        replace ha := ha.c0 hdx4
        replace hb := hb.c0 hdx4
        replace hu1 := hu1.chg hdx4 fun _ _ h => h
        refine hK.out _ _ (fun _ => HSB.out x4 hXx4) ?_
        clear hK K
        try simp only [getElem_toArray, getElem_cons_succ, getElem_cons_zero, Act.put, setIfInBounds_toArray, set_cons_zero, set_cons_succ]
        refine AnyT.one (i := 10) (by kernel_rfl) rfl (fun K hK => ?_)
        rw [if_pos (by rfl)]
        try simp only [getElem_toArray, getElem_cons_succ, getElem_cons_zero, Act.put, setIfInBounds_toArray, set_cons_zero, set_cons_succ]
        go_simp
        have hO := ownBB2 (w1 := x4) hu1 hu2 hcx4.size
        have hdx5 := (Chg.refl Non x4).alloc (.cells #[.slice U1 m1 k1, .slice U2 m2 k2] 26)
        generalize hww : World.alloc x4 _ = x5
        rw [show x4.alloc (.cells #[.slice U1 m1 k1, .slice U2 m2 k2] 26) = x5 from hww] at hdx5 hO
        clear hww
        have hcx5 := hcx4.trans0 hdx5
        have hXx5 := hXx4.c0 hdx5
        replace ha := ha.c0 hdx5
        replace hb := hb.c0 hdx5
        replace hu1 := hu1.chg hdx5 fun _ _ h => h
        replace hu2 := hu2.chg hdx5 fun _ _ h => h
        refine hK.out _ _ (fun _ => HSB.out x5 hXx5) ?_
        clear hK K
        try simp only [getElem_toArray, getElem_cons_succ, getElem_cons_zero, Act.put, setIfInBounds_toArray, set_cons_zero, set_cons_succ]
        refine AnyT.take (i := 11) (v := ?_) rfl (by kernel_rfl) (by kernel_rfl) (fun _ _ _ h => h) (by kernel_rfl) (by kernel_rfl) (Or.inl ⟨by rfl, ?_⟩) (HSB.out x5 hXx5) ?_
        rotate_left
        · (intro w9 h9; go_simp; with_reducible rfl)
        try simp only [getElem_toArray, getElem_cons_succ, getElem_cons_zero, Act.put, setIfInBounds_toArray, set_cons_zero, set_cons_succ]
        refine AnyT.nil (by kernel_rfl) ?_
        go_wp2_with fail
        go_meet
        exact ⟨hO, hcx5⟩
    · rw [if_pos (by rfl)]
      try simp only [getElem_toArray, getElem_cons_succ, getElem_cons_zero, Act.put, setIfInBounds_toArray, set_cons_zero, set_cons_succ]
      go_simp
      have hdx1 := (Chg.refl Non x0).alloc (.cells #[.int .u64 0] 22)
      have hb := Blk.new x0 22 #[.int .u64 0]
      obtain ⟨gb, hgb⟩ : ∃ g, g = x0.heap.size := ⟨_, rfl⟩
      rw [← hgb] at hb ⊢
      generalize hww : World.alloc x0 _ = x1
      rw [show x0.alloc (.cells #[.int .u64 0] 22) = x1 from hww] at hdx1 hb
      clear hww hgb
      have hcx1 := hcx0.trans0 hdx1
      have hXx1 := hXx0.c0 hdx1
      refine hK.out _ _ (fun _ => HSB.out x1 hXx1) ?_
      clear hK K
      try simp only [getElem_toArray, getElem_cons_succ, getElem_cons_zero, Act.put, setIfInBounds_toArray, set_cons_zero, set_cons_succ]
      refine AnyT.one (i := 3) (by kernel_rfl) rfl (fun K hK => ?_)
      rw [if_pos (by rfl)]
      try simp only [getElem_toArray, getElem_cons_succ, getElem_cons_zero, Act.put, setIfInBounds_toArray, set_cons_zero, set_cons_succ]
      go_simp
      have hdx2 := (Chg.refl Non x1).alloc (.cells #[.int .u64 0] 22)
      have ha := Blk.new x1 22 #[.int .u64 0]
      obtain ⟨ga, hga⟩ : ∃ g, g = x1.heap.size := ⟨_, rfl⟩
      rw [← hga] at ha ⊢
      generalize hww : World.alloc x1 _ = x2
      rw [show x1.alloc (.cells #[.int .u64 0] 22) = x2 from hww] at hdx2 ha
      clear hww hga
      have hcx2 := hcx1.trans0 hdx2
      have hXx2 := hXx1.c0 hdx2
      replace hb := hb.c0 hdx2
      refine hK.out _ _ (fun _ => HSB.out x2 hXx2) ?_
      clear hK K
      try simp only [getElem_toArray, getElem_cons_succ, getElem_cons_zero, Act.put, setIfInBounds_toArray, set_cons_zero, set_cons_succ]
      refine AnyT.one (i := 4) (by kernel_rfl) rfl (fun K hK => ?_)
      rw [if_pos (by rfl)]
      try simp only [getElem_toArray, getElem_cons_succ, getElem_cons_zero, Act.put, setIfInBounds_toArray, set_cons_zero, set_cons_succ]
      go_wp2_with (go_at_call 48; refine (packNum1 (n := 0) ha u64_0').mono ?_; rintro e x3 ⟨u1, rfl, hu1, hdx3⟩)
      obtain ⟨U1, m1, k1, rfl⟩ : ∃ A m c, u1 = .slice A m c := hu1.shapeH
      replace hu1 := hu1.low (b' := w0.heap.size) hcx2.size
      have hcx3 := hcx2.trans0 hdx3
      have hXx3 := hXx2.c0 hdx3
      replace ha := ha.c0 hdx3
      replace hb := hb.c0 hdx3
      refine hK.out _ _ (fun _ => HSB.out x3 hXx3) ?_
      clear hK K
      try simp only [getElem_toArray, getElem_cons_succ, getElem_cons_zero, Act.put, setIfInBounds_toArray, set_cons_zero, set_cons_succ]
      refine AnyT.one (i := 9) (by kernel_rfl) rfl (fun K hK => ?_)
      rw [if_pos (by rfl)]
      try simp only [getElem_toArray, getElem_cons_succ, getElem_cons_zero, Act.put, setIfInBounds_toArray, set_cons_zero, set_cons_succ]
      go_wp2_with (go_at_call 48; refine (packNum1 (n := 0) hb u64_0').mono ?_; rintro e x4 ⟨u2, rfl, hu2, hdx4⟩)
      obtain ⟨U2, m2, k2, rfl⟩ : ∃ A m c, u2 = .slice A m c := hu2.shapeH
      replace hu2 := hu2.low (b' := w0.heap.size) hcx3.size
      have hcx4 := hcx3.trans0 hdx4
      have hXx4 := hXx3.c0 hdx4
      replace ha := ha.c0 hdx4
      replace hb := hb.c0 hdx4
      replace hu1 := hu1.chg hdx4 fun _ _ h => h
      refine hK.out _ _ (fun _ => HSB.out x4 hXx4) ?_
      clear hK K
      try simp only [getElem_toArray, getElem_cons_succ, getElem_cons_zero, Act.put, setIfInBounds_toArray, set_cons_zero, set_cons_succ]
      refine AnyT.one (i := 10) (by kernel_rfl) rfl (fun K hK => ?_)
      rw [if_pos (by rfl)]
      try simp only [getElem_toArray, getElem_cons_succ, getElem_cons_zero, Act.put, setIfInBounds_toArray, set_cons_zero, set_cons_succ]
      go_simp
      have hO := ownBB2 (w1 := x4) hu1 hu2 hcx4.size
      have hdx5 := (Chg.refl Non x4).alloc (.cells #[.slice U1 m1 k1, .slice U2 m2 k2] 26)
      generalize hww : World.alloc x4 _ = x5
      rw [show x4.alloc (.cells #[.slice U1 m1 k1, .slice U2 m2 k2] 26) = x5 from hww] at hdx5 hO
      clear hww
      have hcx5 := hcx4.trans0 hdx5
      have hXx5 := hXx4.c0 hdx5
      replace ha := ha.c0 hdx5
      replace hb := hb.c0 hdx5
      replace hu1 := hu1.chg hdx5 fun _ _ h => h
      replace hu2 := hu2.chg hdx5 fun _ _ h => h
      refine hK.out _ _ (fun _ => HSB.out x5 hXx5) ?_
      clear hK K
      try simp only [getElem_toArray, getElem_cons_succ, getElem_cons_zero, Act.put, setIfInBounds_toArray, set_cons_zero, set_cons_succ]
      refine AnyT.take (i := 11) (v := ?_) rfl (by kernel_rfl) (by kernel_rfl) (fun _ _ _ h => h) (by kernel_rfl) (by kernel_rfl) (Or.inl ⟨by rfl, ?_⟩) (HSB.out x5 hXx5) ?_
      rotate_left
      · (intro w9 h9; go_simp; with_reducible rfl)
      try simp only [getElem_toArray, getElem_cons_succ, getElem_cons_zero, Act.put, setIfInBounds_toArray, set_cons_zero, set_cons_succ]
      refine AnyT.nil (by kernel_rfl) ?_
      go_wp2_with fail
      go_meet
      exact ⟨hO, hcx5⟩
  case rest =>
    obtain ⟨hO, hcc⟩ := hcut
    have hXc := hX.c0 hcc
    have hrc := hr0.chg hcc fun _ _ h => h
    have hcw := hcA.trans0 hcc
    have y2 : wc.cell? ⟨p, 2, none⟩ = some (.slice A 1 c) := hXc.cell 2
    obtain ⟨ad, rowv, rfl, _, cr, hrow⟩ := hrc.at_ (k := 0) (by simp)
    obtain ⟨RA, rc, rfl⟩ := hrow.sl
    obtain ⟨ae, kv, vv, rfl, _, ck, cv, rk, rv⟩ := hrow.at_ (k := 0) (by simp)
    simp only [List.getElem_cons_zero] at hrow rk rv
    rw [Nat.zero_mul] at ck cv
    have hza : ad.add 0 = ad := by cases ad; rfl
    have hze : ae.add 0 = ae := by cases ae; rfl
    rw [hza] at cr
    rw [hze] at ck cv
    obtain ⟨KA, kn, kc, rfl⟩ : ∃ A m c, kv = .slice A m c := by obtain ⟨A, c, e, _⟩ := rk.shape; exact ⟨A, _, c, e⟩
    obtain ⟨VA, vn, vc, rfl⟩ : ∃ A m c, vv = .slice A m c := by obtain ⟨A, c, e, _⟩ := rv.shape; exact ⟨A, _, c, e⟩
    clear hr hr0 hX hcA HS HSB HSd hrow hrc hwz
    go_wp2_with fail
    refine wp_loop_rounds 2 ?_
    rw [rounds_succ]
    go_wp2_with fail
    refine wp_loop_rounds 2 ?_
    rw [rounds_succ]
    go_upto_region 9 with fail
    have hP := Blk.new wc 88 #[.slice KA kn kc, .slice VA vn vc]
    have hd1 := (Chg.refl Non wc).alloc (.cells #[.slice KA kn kc, .slice VA vn vc] 88)
    obtain ⟨g1, hg1⟩ : ∃ g, g = wc.heap.size := ⟨_, rfl⟩
    rw [← hg1] at hP ⊢
    generalize hww : World.alloc wc _ = w1
    rw [show wc.alloc (.cells #[.slice KA kn kc, .slice VA vn vc] 88) = w1 from hww] at hd1 hP
    clear hww hg1 y2 cr ck cv
    have z0 : w1.cell? ⟨g1, 0, none⟩ = some (.slice KA kn kc) := hP.cell 0
    have z1 : w1.cell? ⟨g1, 1, none⟩ = some (.slice VA vn vc) := hP.cell 1
    have hW := Blk.new w1 125 #[.slice KA kn kc, .slice VA vn vc, .bool false]
    have hd2 := (Chg.refl Non w1).alloc (.cells #[.slice KA kn kc, .slice VA vn vc, .bool false] 125)
    have hr3 : RdV (w1.alloc (.cells #[.slice KA kn kc, .slice VA vn vc, .bool false] 125)) (fun _ => True) 3 (.slice (some ⟨w1.heap.size, 0, none⟩) 1 1) 1 [.slice KA kn kc, .slice VA vn vc, .bool false] := rdV_one3 hW
    have h1c : ∀ u ∈ [Value.slice KA kn kc, .slice VA vn vc, .bool false], u.oneCell' = true := by simp [Value.oneCell']
    obtain ⟨i, hi, hz, hs1, hs2⟩ := info_parts info_write
    have hcw1 := hcw.trans0 hd1
    have hcw2 := hcw1.trans0 hd2
    have hO2 := (hO.c0 hd1).c0 hd2
    have hwb := hcw1.size
    go_upto_region 10 with (at_builtin; refine wpList_append_rd _ rfl _ _ _ rfl w.heap.size 125 i _ 3 56 Try.underlying30 hi hz hs1 hs2 rfl (by omega) (.slice none 0 0) rfl _ _ (World.ownsRow_nil _ _ _ _) _ _ rfl _ _ hr3 h1c (by simp only [maxLen]; omega) (by omega) hcw2.size ?_; intro v1 w3 hown3 hgr3 _ hat3)
    have hd3 := Chg.of_grown hgr3
    have hd3' : Chg Non _ w3 := hd3.mono fun k _ hk => by simp [Value.ownBlock] at hk
    have hO3 := hO2.c0 hd3'
    have hcw3 := hcw2.trans0 hd3'
    have hkk3 := ((rk.c0 hd1).c0 hd2).c0 hd3'
    have hvv3 := ((rv.c0 hd1).c0 hd2).c0 hd3'
    simp only [Nat.zero_add, List.nil_append] at hown3
    have hRW : RdW w3 (fun _ => True) v1 [⟨key, [], false⟩] := ⟨[(.slice KA kn kc, .slice VA vn vc)], rfl, (RdV.of_own hown3).mono fun _ _ => trivial, fun i x y hx hy => by
      match i, hx, hy with
      | 0, hx, hy => simp at hx hy; subst hx; subst hy; exact ⟨hkk3.mono fun _ _ => trivial, hvv3.mono fun _ _ => trivial⟩
      | i + 1, hx, hy => simp at hx⟩
    obtain ⟨WA, wn, wk, rfl⟩ := RdW.sl hRW
    have hRR : RecR w3 (fun _ => True) (xr key []) (.slice WA wn wk) (.slice none 0 0) (.slice none 0 0) (.slice none 0 0) := ⟨hRW, RdW.nil_ _ _, RdV.nil_ _ _ _, RdB.nil_ _ _, u64_0', u64_0', u64_0', u64_0', (by decide : (Lit.int .i64 4).wf = true)⟩
    have hSm : RcSm (xr key []) := xr_sm' hkl
    have HRR := hide (And.intro hRR hSm)
    have hs03 : w0.heap.size ≤ w3.heap.size := by have := hcc.size; have := hd1.size; have := hd2.size; have := hd3'.size; omega
    clear hr3 h1c hW hd1 hd2 hO hO2 hP z0 z1 hown3 hgr3 hat3 hd3 hd3' hkk3 hvv3 hRW hRR hSm hcw1 hcw2 hi hz hs1 hs2 hwb hcw rk rv
    have hO3l := hO3.lt
    go_wp2_with fail
    rw [rounds_succ]
    go_upto_region 11 with fail
    go_wp2_with fail
    refine (recBytes HRR.out.1 HRR.out.2).mono ?_
    rintro e w4 ⟨u5, rfl, hu5, hd4⟩
    obtain ⟨Y, yn, yc, rfl⟩ : ∃ A m c, u5 = .slice A m c := hu5.shapeH
    have hs34 := hd4.size
    have hB5 := Blk.new w4 26 #[.slice Y yn yc]
    have hd5 := (Chg.refl Non w4).alloc (.cells #[.slice Y yn yc] 26)
    have hO5 := (hO3.c0 hd4).c0 hd5
    have hs45 := hd5.size
    have hu6 : RdB (w4.alloc (.cells #[.slice Y yn yc] 26)) (fun b => w0.heap.size ≤ b ∧ b < (w4.alloc (.cells #[.slice Y yn yc] 26)).heap.size ∧ u3.ownBlock ≠ some b) (.slice Y yn yc) (recY (xr key [])) := (hu5.rdB.c0 hd5).mono fun k hk => ⟨Nat.le_trans hs03 hk.1, Nat.lt_of_lt_of_le hk.2 hs45, fun e => by have h1 := (hO3l k e).2; have h2 := hk.1; omega⟩
    go_upto_region 12 with (at_builtin; refine append_BB rfl _ _ rfl hO5 rfl hu6 hB5 rfl (by simp) (by omega) ?_; intro v6 w6 hO6 hgr6 hat6)
    have hcw5 := (hcw3.trans0 hd4).trans0 hd5
    have hcw6 := hcw5.own hgr6 (fun k hk => by have := (hO3l k hk).1; have := HP.out; omega)
    have hJ := hO6.rd
    have hlen := replyY_len hkl
    have hn6 := hcw6.size
    clear hO3 hO5 hu5 hu6 hB5 hgr6 hat6 hd4 hd5
    go_wp2_with fail
    rw [rounds_succ]
    go_wp2_with (go_at_call 50; refine (packJoin hJ (by show (replyY key).length + 18 ≤ _; omega)).mono ?_; rintro e w7 ⟨u7, rfl, hu7, hd7⟩)
    go_ret
    exact ⟨u7, rfl, hu7.low hn6, hcw6.trans0 hd7⟩
end Go.Proofs.Ytncchbcoldgpbaa

namespace Go.Proofs.Ytncchbcoldgpbaa
open Go.RowKit
set_option linter.unusedVariables false
set_option linter.unusedSimpArgs false

theorem xr_wf' (k v : List UInt8) : RcWf (xr k v) := ⟨⟨by unfold U64; exact (by decide : (0:Nat) < 18446744073709551616), by unfold U64; exact (by decide : (0:Nat) < 18446744073709551616), by unfold U64; exact (by decide : (0:Nat) < 18446744073709551616), by unfold U64; exact (by decide : (0:Nat) < 18446744073709551616)⟩, fun s hs => by cases hs⟩
theorem xr_trim' (k v : List UInt8) : trimR (xr k v) = xr k v := rfl
theorem row_some {w : World} {base sz n : Nat} {e : TypeId} {v : Value} {xs : List Value} (h : w.ownsRow base e sz v n xs) (hn : 0 < n) : ∃ g c, v = .slice (some ⟨g, 0, none⟩) n c ∧ base ≤ g ∧ g < w.heap.size ∧ ∀ j, w.frozen? ⟨g, j, none⟩ = false := by
  rcases h.2 with ⟨_, h2⟩ | ⟨g, cap, cur, h2, h3, h4, _⟩
  · omega
  · exact ⟨g, cap, h2, h3, (Array.getElem?_eq_some_iff.1 h4).1, fun j => (show Blk w g e cur from h4).frozen j⟩
theorem row_cells {w : World} {base sz n : Nat} {e : TypeId} {v : Value} {xs : List Value} (h : w.ownsRow base e sz v n xs) (hn : 0 < n) : ∃ g c, v = .slice (some ⟨g, 0, none⟩) n c ∧ ∀ (j : Nat) (u : Value), xs[j]? = some u → w.cell? ⟨g, j, none⟩ = some u := by
  obtain ⟨g, c, rfl, _, _, _⟩ := row_some h hn
  obtain ⟨_, A', c', e, _, _, h2⟩ := RdV.of_own h
  injection e with e1 e2 e3
  subst e1
  obtain ⟨ad, e, _, hc⟩ := h2 hn
  injection e with e
  subst e
  refine ⟨g, c, rfl, fun j u hu => ?_⟩
  have := hc j u hu
  rwa [add_none, Nat.zero_add] at this
/-- what Read or Between made of the record -/
theorem own_xr {w : World} {base : Nat} {k v : List UInt8} {a b c d : Value} {xs ys : List (Value × Value)} (h : RecOwn w base (xr k v) a b c d xs ys) :
    ∃ p q g cp, a = .slice (some ⟨g, 0, none⟩) 1 cp ∧ w.cell? ⟨g, 0, none⟩ = some p ∧ w.cell? ⟨g, 1, none⟩ = some q ∧ w.cell? ⟨g, 2, none⟩ = some (.bool false) ∧ OwnPs w base [(p, k), (q, v), (d, v)] := by
  obtain ⟨h1, h2, h3, h4, h5, h6⟩ := h
  rcases xs with _ | ⟨⟨p, q⟩, xs⟩
  · cases h1
  · have hx : xs = [] := List.eq_nil_of_length_eq_zero (by simpa [xr] using h1)
    have hy : ys = [] := List.eq_nil_of_length_eq_zero h2
    subst hx; subst hy
    obtain ⟨g, cp, rfl, hc⟩ := row_cells h3 (show 0 < (xr k v).ws.length from Nat.one_pos)
    exact ⟨p, q, g, cp, rfl, hc 0 p rfl, hc 1 q rfl, hc 2 (.bool false) rfl, h6⟩
theorem RecOwn.sl2 {w : World} {base : Nat} {x : RcS} {a b c d : Value} {xs ys : List (Value × Value)} (h : RecOwn w base x a b c d xs ys) : (∃ A n c, a = .slice A n c) ∧ (∃ A n c, b = .slice A n c) ∧ (∃ A n e, c = .slice A n e) ∧ ∃ A n c, d = .slice A n c :=
  ⟨RdV.sl (RdV.of_own h.ws), RdV.sl (RdV.of_own h.rs), RdV.sl (RdV.of_own h.sh), (h.ps.1 (d, x.reply) (by simp)).sl⟩
theorem OwnPs.ch {w : World} {base : Nat} : ∀ {r : List (Value × List UInt8)}, OwnPs w base r → OwnCh w base r
  | [], _ => trivial
  | (x, l) :: r, ⟨h1, h2⟩ => by
    obtain ⟨h3, h4⟩ := List.pairwise_cons.1 h2
    exact ⟨h1 (x, l) (by simp), fun p hp b hb => h3 p hp b hb, OwnPs.ch ⟨fun p hp => h1 p (by simp [hp]), h4⟩⟩

theorem rdV_one2 {w : World} {g : Nat} {ty : TypeId} {a b : Value} (h : Blk w g ty #[a, b]) : RdV w (fun _ => True) 2 (.slice (some ⟨g, 0, none⟩) 1 1) 1 [a, b] :=
  ⟨rfl, _, 1, rfl, Nat.le_refl _, by simp [maxLen], fun _ => ⟨_, rfl, trivial, fun j y hyj => by
    rw [add_none, Nat.zero_add, h.cell]
    rw [← hyj]
    exact List.getElem?_toArray⟩⟩
theorem rdV_one1 {w : World} {g : Nat} {ty : TypeId} {a : Value} (h : Blk w g ty #[a]) : RdV w (fun _ => True) 1 (.slice (some ⟨g, 0, none⟩) 1 1) 1 [a] :=
  ⟨rfl, _, 1, rfl, Nat.le_refl _, by simp [maxLen], fun _ => ⟨_, rfl, trivial, fun j y hyj => by
    rw [add_none, Nat.zero_add, h.cell]
    rw [← hyj]
    exact List.getElem?_toArray⟩⟩
theorem fits_reply {k : List UInt8} (h : k.length ≤ 1000000) : Fits [numB 0, numB 0, recY (xr k [])] := by
  have h1 := recY_xr' h
  have h0 : (numB 0).length = 1 := rfl
  refine ⟨by simp, fun l hl => ?_⟩
  simp only [List.mem_cons, List.not_mem_nil, or_false] at hl
  rcases hl with rfl | rfl | rfl <;> omega
theorem info_outc : (Try.prog.info? 43).map (·.size) = some 4 := by kernel_rfl
theorem wp_store_a {T : TypeId} {n : Nat} (hT : (Try.prog.info? T).map (·.size) = some n) {o : Oper} {a : Act} {w : World} {K : Act → World → Prop} {Q : Exit → Act → World → Prop} (x y : Operand) (ho : o.op = .store T x y)
    (g : Nat) (cells : Array Value) (hx : a.eval x = .pointer (some ⟨g, 0, none⟩)) (hy : a.eval y = .agg cells) (old : Array Value) (hB : Blk w g T old) (hs : old.size = n) (hc : cells.size = n) (h1 : cells.all (·.oneCell') = true)
    (h : ∀ w', Blk w' g T cells → Chg (fun k => k = g) w w' → K (a.put o.dst undef) w') : o.wp Try.prog a w K Q :=
  wp_store_row (P := Try.prog) T x y ho g cells hx hy T old hB (by rw [hc]; exact hT) (by omega) h1 (h _ (setRow_blk hB).1 (setRow_blk hB).2)
theorem run_loadO {p : Nat} {arr : Array Value} {w : World} (hP : Blk w p 43 arr) (hs : arr.size = 4) : (loadVar 43 ⟨p, 0, none⟩).run Try.prog w = .ok (.agg arr) w :=
  run_loadVar_row (P := Try.prog) w p 43 43 arr (0, 0) _ hP Try.underlying43 rfl (by rw [hs]; exact info_outc)
theorem res_out2 {fn : Func} {tm tn : Tmp} (h : fn.results = #[.cell tm 43, .tmp tn]) {tmps : Array Value} {w : World} {p : Nat} {cs : Array Value} {v : Value} (hp : tmps.getD tm undef = .pointer (some ⟨p, 0, none⟩)) (hP : Blk w p 43 cs) (hs : cs.size = 4) (hv : tmps.getD tn undef = v) :
    (results fn tmps).run Try.prog w = .ok (.tuple #[.agg cs, v]) w := by
  have hp' : tmps[tm]?.getD undef = .pointer (some ⟨p, 0, none⟩) := by simpa using hp
  have hv' : tmps[tn]?.getD undef = v := by simpa using hv
  simp [results, h, hp', hv', asAddr, run_loadO hP hs]
theorem info_recd : (Try.prog.info? 129).map (·.size) = some 11 := by kernel_rfl
set_option maxHeartbeats 16000000 in
set_option maxRecDepth 100000 in
theorem toReply {v : Value} {key : List UInt8} {F : Nat → Prop} {w : World} (hr : RdB w F v (replyY key)) (hkl : key.length ≤ 1000000) :
    Calls Try.prog 68 #[v] w fun e w' => ∃ (g1 c1 g2 c2 : Nat) (kv : Value), e = .returned (.tuple #[.agg #[.int .i64 0, .int .i64 0, .slice (some ⟨g1, 0, none⟩) 1 c1, .slice none 0 0], .int .i64 0]) ∧
      w'.cell? ⟨g1, 0, none⟩ = some (.slice (some ⟨g2, 0, none⟩) 1 c2) ∧ w'.cell? ⟨g2, 0, none⟩ = some kv ∧ OwnB w' w.heap.size kv key ∧ w.heap.size ≤ g1 ∧ g1 < w'.heap.size ∧ w.heap.size ≤ g2 ∧ g2 < w'.heap.size ∧ (∀ k, kv.ownBlock = some k → k ≠ g1 ∧ k ≠ g2) ∧ Chg Non w w' := by
  have hX := Blk.new w 43 #[.int .i64 0, .int .i64 0, .slice none 0 0, .slice none 0 0]
  have hcA := (Chg.refl Non w).alloc (.cells #[.int .i64 0, .int .i64 0, .slice none 0 0, .slice none 0 0] 43)
  have hlen := replyY_len hkl
  have hsp : splitB (replyY key) = ([numB 0, numB 0, recY (xr key [])], 0) := splitB_join _ (fits_reply hkl)
  go_enter Try.func68, Try.ntmps68
  go_upto_region 1 with fail
  obtain ⟨p, hp⟩ : ∃ p, p = w.heap.size := ⟨_, rfl⟩
  rw [← hp] at hX ⊢
  have HP := hide hp
  clear hp
  generalize hw0 : World.alloc w _ = w0
  rw [show w.alloc (.cells #[.int .i64 0, .int .i64 0, .slice none 0 0, .slice none 0 0] 43) = w0 from hw0] at hX hcA
  clear hw0
  have hr0 := hr.c0 hcA
  have HSP := hide (packSplit hr0 (by omega))
  rw [hsp] at HSP
  have hpl := hX.lt
  clear hr hsp hlen hr0
  go_upto_region 2 with (go_at_call 84; refine HSP.out.mono ?_; rintro e w1 ⟨u, rfl, hB, hd1⟩)
  obtain ⟨vs, ev, hrow, _, hel⟩ := hB
  obtain ⟨gp, c, rfl, hcell⟩ := row_cells hrow (by simp)
  match vs, ev with
  | [x0, x1, x2], _ =>
  have d0 := hcell 0 x0 rfl
  have d1 := hcell 1 x1 rfl
  have d2 := hcell 2 x2 rfl
  have r0 := (hel 0 x0 (numB 0) rfl rfl).rd
  have r1 := (hel 1 x1 (numB 0) rfl rfl).rd
  have r2 := (hel 2 x2 (recY (xr key [])) rfl rfl).rd
  obtain ⟨hc3, hcm⟩ : 3 ≤ c ∧ c ≤ maxLen := by
    obtain ⟨_, A', c', e, h1, h2, _⟩ := RdV.of_own hrow
    injection e with e1 e2 e3
    subst e3
    exact ⟨h1, h2⟩
  have hcw1 := hcA.trans0 hd1
  have hX1 := hX.c0 hd1
  clear HSP hrow hcell hel ev hd1
  unfold maxLen at hcm
  go_upto_region 10 with (first
    | (have z := hn0; go_at_call 85; refine (outNumber r1 (by decide)).mono ?_; rintro e w9 ⟨rfl, h9⟩; have h8 := h9.symm; clear h9; subst h8)
    | (go_at_call 85; refine (outNumber r0 (by decide)).mono ?_; rintro e w9 ⟨rfl, h9⟩; have h8 := h9.symm; clear h9; subst h8; have hn0 := True.intro))
  go_upto_region 11 with fail
  have hZ := Blk.new w1 43 #[.int .i64 0, .int .i64 0, .slice none 0 0, .slice none 0 0]
  have hd2 := (Chg.refl Non w1).alloc (.cells #[.int .i64 0, .int .i64 0, .slice none 0 0, .slice none 0 0] 43)
  obtain ⟨g9, hg9⟩ : ∃ g, g = w1.heap.size := ⟨_, rfl⟩
  rw [← hg9] at hZ ⊢
  have hg9w : p < g9 := by have := hX1.lt; omega
  clear hg9 d0 d1
  generalize hww : World.alloc w1 _ = w2
  rw [show w1.alloc (.cells #[.int .i64 0, .int .i64 0, .slice none 0 0, .slice none 0 0] 43) = w2 from hww] at hd2 hZ
  clear hww
  replace d2 := hd2.cell d2 (fun h => h)
  have hX2 := hX1.c0 hd2
  have hcw2 := hcw1.trans0 hd2
  replace r2 := r2.c0 hd2
  have i1 : (2 : Int) ≤ (c : Int) := by omega
  have i2 : 2 ≤ c := by omega
  have i3 : ¬ (c - 2 = 0) := by omega
  clear r0 r1 hX1 hcw1 hd2
  go_wp2_with fail
  refine wp_loop_rounds 2 ?_
  rw [rounds_succ]
  go_upto_region 14 with fail
  go_upto_region 15 with (go_at_call 86; refine (recRead_O r2 (xr_sm' hkl) (xr_wf' _ _) rfl).mono ?_; rintro e w3 ⟨va, vb, vc, vd, xs1, ys1, rfl, hRO, hd3⟩; rw [xr_trim'] at hRO ⊢; obtain ⟨_, ⟨C2, m2, t2, rfl⟩, ⟨C3, m3, t3, rfl⟩, ⟨C4, m4, t4, rfl⟩⟩ := hRO.sl2; obtain ⟨p1, q1, g2, cp2, rfl, hp1, hq1, hb1, hps1⟩ := own_xr hRO; unfold recC)
  have hY := Blk.new w3 129 #[.int .i64 (xr key []).kind, .int .u64 ((xr key []).boot : Int), .int .u64 ((xr key []).sess : Int), .int .u64 ((xr key []).seq : Int), .slice (some ⟨g2, 0, none⟩) 1 cp2, .slice C2 m2 t2, .bool (xr key []).commit, .slice C3 m3 t3, .slice C4 m4 t4, .int .u64 ((xr key []).id : Int), .string (xr key []).name]
  have hd4 := (Chg.refl Non w3).alloc (.cells #[.int .i64 (xr key []).kind, .int .u64 ((xr key []).boot : Int), .int .u64 ((xr key []).sess : Int), .int .u64 ((xr key []).seq : Int), .slice (some ⟨g2, 0, none⟩) 1 cp2, .slice C2 m2 t2, .bool (xr key []).commit, .slice C3 m3 t3, .slice C4 m4 t4, .int .u64 ((xr key []).id : Int), .string (xr key []).name] 129)
  obtain ⟨gy, hgy⟩ : ∃ g, g = w3.heap.size := ⟨_, rfl⟩
  rw [← hgy] at hY ⊢
  clear hgy
  generalize hww : World.alloc w3 _ = w4
  rw [show w3.alloc (.cells #[.int .i64 (xr key []).kind, .int .u64 ((xr key []).boot : Int), .int .u64 ((xr key []).sess : Int), .int .u64 ((xr key []).seq : Int), .slice (some ⟨g2, 0, none⟩) 1 cp2, .slice C2 m2 t2, .bool (xr key []).commit, .slice C3 m3 t3, .slice C4 m4 t4, .int .u64 ((xr key []).id : Int), .string (xr key []).name] 129) = w4 from hww] at hd4 hY
  clear hww
  have hk4 : ((xr key []).kind != 4) = false := rfl
  have y0 : w4.cell? ⟨gy, 0, none⟩ = some (.int .i64 (xr key []).kind) := hY.cell 0
  have y4 : w4.cell? ⟨gy, 4, none⟩ = some (.slice (some ⟨g2, 0, none⟩) 1 cp2) := hY.cell 4
  replace hp1 := hd4.cell hp1 (fun h => h)
  replace hq1 := hd4.cell hq1 (fun h => h)
  replace hb1 := hd4.cell hb1 (fun h => h)
  have hk1 : OwnB w3 w2.heap.size p1 key := hps1.1 (p1, key) (by simp)
  have hv1 : OwnB w3 w2.heap.size q1 [] := hps1.1 (q1, []) (by simp)
  obtain ⟨P1, n1, e1, rfl⟩ : ∃ A m c, p1 = .slice A m c := hk1.shapeH
  obtain ⟨Q1, n2, e2, rfl⟩ : ∃ A m c, q1 = .slice A m c := hv1.shapeH
  have hk4' := hk1.chg hd4 fun _ _ h => h
  have HK3 := hide (fun k (h : (Value.slice P1 n1 e1).ownBlock = some k) => (hk1.lt k h).2)
  have hX4 := (hX2.c0 hd3).c0 hd4
  have hZ4 := (hZ.c0 hd3).c0 hd4
  have hcw4 := (hcw2.trans0 hd3).trans0 hd4
  have hs23 := hd3.size
  have hs34 := hd4.size
  have hgl4 : g9 < w2.heap.size := hZ.lt
  clear hRO hps1 hY hd3 hd4 hX2 hZ hcw2 r2 d2 i1 i2 i3 hk1 hv1
  go_upto_region 18 with fail
  go_wp2_with fail
  refine wp_loop_rounds 2 ?_
  rw [rounds_succ]
  go_upto_region 21 with fail
  have hT := Blk.new w4 125 #[.slice P1 n1 e1, .slice Q1 n2 e2, .bool false]
  have hd5 := (Chg.refl Non w4).alloc (.cells #[.slice P1 n1 e1, .slice Q1 n2 e2, .bool false] 125)
  obtain ⟨gt, hgt⟩ : ∃ g, g = w4.heap.size := ⟨_, rfl⟩
  rw [← hgt] at hT ⊢
  clear hgt
  generalize hww : World.alloc w4 _ = w5
  rw [show w4.alloc (.cells #[.slice P1 n1 e1, .slice Q1 n2 e2, .bool false] 125) = w5 from hww] at hd5 hT
  clear hww hp1 hq1 hb1 y0 y4
  have z0 : w5.cell? ⟨gt, 0, none⟩ = some (.slice P1 n1 e1) := hT.cell 0
  have z1 : w5.cell? ⟨gt, 1, none⟩ = some (.slice Q1 n2 e2) := hT.cell 1
  have hcw5 := hcw4.trans0 hd5
  have hL := Blk.new w5 88 #[.slice P1 n1 e1, .slice Q1 n2 e2]
  have hd6 := (Chg.refl Non w5).alloc (.cells #[.slice P1 n1 e1, .slice Q1 n2 e2] 88)
  have hr3 : RdV (w5.alloc (.cells #[.slice P1 n1 e1, .slice Q1 n2 e2] 88)) (fun _ => True) 2 (.slice (some ⟨w5.heap.size, 0, none⟩) 1 1) 1 [.slice P1 n1 e1, .slice Q1 n2 e2] := rdV_one2 hL
  have h1c : ∀ u ∈ [Value.slice P1 n1 e1, .slice Q1 n2 e2], u.oneCell' = true := by simp [Value.oneCell']
  obtain ⟨ip, hip, hzp, hs1, hs2⟩ := info_parts info_pair
  have hs45 := hd5.size
  have hs56 := hd6.size
  have hw5 := hcw5.size
  have hcw6 := hcw5.trans0 hd6
  go_upto_region 22 with (at_builtin; refine wpList_append_rd _ rfl _ _ _ rfl w5.heap.size 88 ip _ 2 48 Try.underlying89 hip hzp hs1 hs2 rfl (by omega) (.slice none 0 0) rfl _ _ (World.ownsRow_nil _ _ _ _) _ _ rfl _ _ hr3 h1c (by simp only [maxLen]; omega) (by omega) hs56 ?_; intro v1 w7 hown7 hgr7 _ hat7; obtain ⟨g7, c7, hv7, hcell7⟩ := row_cells hown7 (by simp); subst hv7)
  have hd7 : Chg Non _ w7 := (Chg.of_grown hgr7).mono fun k _ hk => by simp [Value.ownBlock] at hk
  simp only [Nat.zero_add, List.nil_append] at hown7 hcell7
  have k70 := hcell7 0 _ rfl
  have hg7l := World.ownsRow.lt hown7 g7 rfl
  have hX7 := ((hX4.c0 hd5).c0 hd6).c0 hd7
  have hZ7 := ((hZ4.c0 hd5).c0 hd6).c0 hd7
  have hk7 := ((hk4'.chg hd5 fun _ _ h => h).chg hd6 fun _ _ h => h).chg hd7 fun _ _ h => h
  have hcw7 := hcw6.trans0 hd7
  have hs67 := hd7.size
  clear hT hd5 hL hd6 hr3 h1c hip hzp hs1 hs2 hgr7 hat7 hd7 hown7 hcell7 hX4 hZ4 hcw4 hcw5 hcw6 z0 z1
  go_wp2_with fail
  rw [rounds_succ]
  go_upto_region 23 with fail
  have y2 : w7.cell? ⟨g9, 2, none⟩ = some (.slice none 0 0) := hZ7.cell 2
  have hL8 := Blk.new w7 89 #[.slice (some ⟨g7, 0, none⟩) 1 c7]
  have hd8 := (Chg.refl Non w7).alloc (.cells #[.slice (some ⟨g7, 0, none⟩) 1 c7] 89)
  have hr8 : RdV (w7.alloc (.cells #[.slice (some ⟨g7, 0, none⟩) 1 c7] 89)) (fun _ => True) 1 (.slice (some ⟨w7.heap.size, 0, none⟩) 1 1) 1 [.slice (some ⟨g7, 0, none⟩) 1 c7] := rdV_one1 hL8
  have h1c : ∀ u ∈ [Value.slice (some ⟨g7, 0, none⟩) 1 c7], u.oneCell' = true := by simp [Value.oneCell']
  obtain ⟨ip, hip, hzp, hs1, hs2⟩ := info_parts info_row
  have hs78 := hd8.size
  have hX8 := hX7.c0 hd8
  have hZ8 := hZ7.c0 hd8
  have hcw8 := hcw7.trans0 hd8
  have hw7 := hcw7.size
  go_upto_region 24 with (at_builtin; refine wpList_append_rd _ rfl _ _ _ rfl w7.heap.size 89 ip _ 1 24 Try.underlying29 hip hzp hs1 hs2 rfl (by omega) (.slice none 0 0) rfl _ _ (World.ownsRow_nil _ _ _ _) _ _ rfl _ _ hr8 h1c (by simp only [maxLen]; omega) (by omega) hs78 ?_; intro v8 w9 hown9 hgr9 _ hat9; obtain ⟨gr, cr, hv9, hcell9⟩ := row_cells hown9 (by simp); subst hv9; have hd9 : Chg Non _ w9 := (Chg.of_grown hgr9).mono (fun k _ hk => by simp [Value.ownBlock] at hk); have hZ9 := hZ8.c0 hd9; have x2 : w9.cell? ⟨g9, 2, none⟩ = some (.slice none 0 0) := hZ9.cell 2; have f2 := hZ9.frozen 2)
  simp only [Nat.zero_add, List.nil_append] at hown9 hcell9
  have k90 := hcell9 0 _ rfl
  have hgrl := World.ownsRow.lt hown9 gr rfl
  have hX9 := hX8.c0 hd9
  have hcw9 := hcw8.trans0 hd9
  have hs89 := hd9.size
  have k70' := (hd9.cell (hd8.cell k70 (fun h => h)) (fun h => h))
  have hk9 := (hk7.chg hd8 fun _ _ h => h).chg hd9 fun _ _ h => h
  have hZA : Blk (w9.setCell ⟨g9, 2, none⟩ (.slice (some ⟨gr, 0, none⟩) 1 cr)) g9 43 #[.int .i64 0, .int .i64 0, .slice (some ⟨gr, 0, none⟩) 1 cr, .slice none 0 0] := hZ9.set_ 2 _
  have hdA : Chg (fun k => k = g9) w9 (w9.setCell ⟨g9, 2, none⟩ (.slice (some ⟨gr, 0, none⟩) 1 cr)) := Chg.setCell (S := fun k => k = g9) (Chg.refl _ w9) (p := ⟨g9, 2, none⟩) (fun _ => rfl) _
  clear y2 hL8 hd8 hr8 h1c hip hzp hs1 hs2 hX8 hZ8 hcw8 hgr9 hat9 hown9 hcell9 hd9 x2 f2 hX7 hZ7 hZ9 hcw7 hk7 k70
  generalize World.setCell w9 _ _ = wA at hZA hdA ⊢
  have hg9x : w0.heap.size ≤ g9 ∨ True := .inr trivial
  have hXA := hX9.chg hdA (fun e => by omega)
  have kA0 := hdA.cell k90 (fun e => by have : gr = g9 := e; omega)
  have kA7 := hdA.cell k70' (fun e => by have : g7 = g9 := e; omega)
  have hkA := hk9.chg hdA (fun k h e => by have := (hk9.lt k h).1; omega)
  have hcwA : Chg Non w wA := hcw9.trans hdA fun k hk e => by have := HP.out; omega
  clear hX9 hdA k90 k70' hk9 hcw9
  go_wp2_with fail
  rw [rounds_succ]
  go_upto_region 25 with fail
  go_wp2_with (first | (refine wpList_load_row rfl 43 (.tmp 9) rfl g9 rfl 43 #[.int .i64 0, .int .i64 0, .slice (some ⟨gr, 0, none⟩) 1 cr, .slice none 0 0] (0, 0) _ hZA Try.underlying43 rfl info_outc ?_) | (refine wpList_plain rfl fun _ hK => wp_store_a info_outc (.tmp 2) (.tmp 97) rfl p #[.int .i64 0, .int .i64 0, .slice (some ⟨gr, 0, none⟩) 1 cr, .slice none 0 0] rfl rfl _ hXA rfl rfl (by simp [Value.oneCell']) fun wB hPB hcB => hK _ _ ?_))
  have hcf : Chg Non w wB := hcwA.trans hcB fun k hk e => by have := HP.out; omega
  refine bodyPost_ret (res_out2 rfl rfl hPB rfl rfl) rfl ⟨gr, cr, g7, c7, _, rfl, hcB.cell kA0 (fun e => by have : gr = p := e; omega), hcB.cell kA7 (fun e => by have : g7 = p := e; omega), (hkA.chg hcB fun k h e => by have := (hkA.lt k h).1; omega).low (by have := HP.out; omega), by have := HP.out; omega, ?_, by have := HP.out; omega, ?_, ?_, hcf⟩
  · exact Nat.lt_of_lt_of_le (World.block_lt_of_cell? _ _ kA0) hcB.size
  · exact Nat.lt_of_lt_of_le (World.block_lt_of_cell? _ _ kA7) hcB.size
  · intro k h
    have h1 := HK3.out k h
    exact ⟨by omega, by omega⟩
end Go.Proofs.Ytncchbcoldgpbaa

namespace Go.Proofs.Ytncchbcoldgpbaa
open Go.RowKit
set_option linter.unusedVariables false
set_option linter.unusedSimpArgs false
set_option maxHeartbeats 16000000 in
set_option maxRecDepth 100000 in
theorem replyOne {c s q i b tb ts tq : Nat} {wt : List Value} {dv : Value} {key : List UInt8} {F : Nat → Prop} {w : World} (hC : Blk w c 116 (cliA s q i b wt)) (hwt : wt.length = 65) (w0 : wt[0]? = some (.int .i64 6))
    (w39 : wt[39]? = some (.int .u64 (tb : Int))) (w40 : wt[40]? = some (.int .u64 (ts : Int))) (w41 : wt[41]? = some (.int .u64 (tq : Int))) (hr : RdB w F dv (replyY key)) (hkl : key.length ≤ 1000000) (hF : ∀ k, F k → k < w.heap.size ∧ k ≠ c) :
    Calls Try.prog 40 #[.pointer (some ⟨c, 0, none⟩), .agg #[.int .u64 (i : Int), .int .u64 (b : Int), .int .u64 (tb : Int), .int .u64 (ts : Int), .int .u64 (tq : Int), .int .i64 0, dv]] w fun e w' => ∃ (g1 c1 g2 c2 : Nat) (kv : Value), e = .returned (.agg #[.bool true, .int .i64 0, .int .i64 0, .int .i64 0, .slice (some ⟨g1, 0, none⟩) 1 c1, .slice none 0 0, .int .u64 (tb : Int), .int .u64 (ts : Int), .int .u64 (tq : Int)]) ∧
      w'.cell? ⟨g1, 0, none⟩ = some (.slice (some ⟨g2, 0, none⟩) 1 c2) ∧ w'.cell? ⟨g2, 0, none⟩ = some kv ∧ OwnB w' w.heap.size kv key ∧ w.heap.size ≤ g1 ∧ g1 < w'.heap.size ∧ w.heap.size ≤ g2 ∧ g2 < w'.heap.size ∧ (∀ k, kv.ownBlock = some k → k ≠ g1 ∧ k ≠ g2) ∧ Chg (fun k => k = c) w w' := by
  obtain ⟨DA, dn, dc, rfl⟩ : ∃ A m c, dv = .slice A m c := by obtain ⟨A, c, e, _⟩ := hr.shape; exact ⟨A, _, c, e⟩
  have hX := Blk.new w 53 #[.int .u64 (i : Int), .int .u64 (b : Int), .int .u64 (tb : Int), .int .u64 (ts : Int), .int .u64 (tq : Int), .int .i64 0, .slice DA dn dc]
  have hcA := (Chg.refl Non w).alloc (.cells #[.int .u64 (i : Int), .int .u64 (b : Int), .int .u64 (tb : Int), .int .u64 (ts : Int), .int .u64 (tq : Int), .int .i64 0, .slice DA dn dc] 53)
  have hcB := (Chg.refl Non (w.alloc (.cells #[.int .u64 (i : Int), .int .u64 (b : Int), .int .u64 (tb : Int), .int .u64 (ts : Int), .int .u64 (tq : Int), .int .i64 0, .slice DA dn dc] 53))).alloc (.cells zeroH 81)
  have hY := Blk.new (w.alloc (.cells #[.int .u64 (i : Int), .int .u64 (b : Int), .int .u64 (tb : Int), .int .u64 (ts : Int), .int .u64 (tq : Int), .int .i64 0, .slice DA dn dc] 53)) 81 zeroH
  have hsA : (w.alloc (.cells #[.int .u64 (i : Int), .int .u64 (b : Int), .int .u64 (tb : Int), .int .u64 (ts : Int), .int .u64 (tq : Int), .int .i64 0, .slice DA dn dc] 53)).heap.size = w.heap.size + 1 := by simp
  rw [hsA] at hY
  have hX0 := hX.c0 hcB
  have hcw0 := hcA.trans0 hcB
  have hC0 := hC.c0 hcw0
  have hcl := hC.lt
  have hzz : (#[.bool false, .int .i64 0, .int .i64 0, .int .i64 0, .slice none 0 0, .slice none 0 0, .int .u64 0, .int .u64 0, .int .u64 0] : Array Value) = zeroH := rfl
  go_enter Try.func40, Try.ntmps40
  go_upto_region 1 with fail
  try rw [hzz]
  obtain ⟨p, hp⟩ : ∃ p, p = w.heap.size := ⟨_, rfl⟩
  obtain ⟨g, hg⟩ : ∃ g, g = w.heap.size + 1 := ⟨_, rfl⟩
  rw [← hg] at hY
  rw [← hp] at hX0
  try rw [hsA]
  rw [← hg, ← hp]
  have HPG := hide (And.intro hp hg)
  have hne : p ≠ c ∧ g ≠ c ∧ p ≠ g := by omega
  clear hp hg hsA hX hcA hcB hC
  generalize World.alloc (World.alloc w _) _ = w1 at hY hX0 hcw0 hC0 ⊢
  have r0 : w1.cell? ⟨p, 0, none⟩ = some (.int .u64 (i : Int)) := hX0.cell 0
  have r1 : w1.cell? ⟨p, 1, none⟩ = some (.int .u64 (b : Int)) := hX0.cell 1
  go_upto_region 2 with (go_at_call 39; refine (learnSame hC0).mono ?_; rintro e w2 ⟨rfl, hd2⟩)
  have hX2 := hX0.c0 hd2
  have hY2 := hY.c0 hd2
  have hC2 := hC0.c0 hd2
  have hcw2 := hcw0.trans0 hd2
  clear r0 r1 hX0 hY hC0 hcw0 hd2
  have r2 : w2.cell? ⟨p, 2, none⟩ = some (.int .u64 (tb : Int)) := hX2.cell 2
  have r3 : w2.cell? ⟨p, 3, none⟩ = some (.int .u64 (ts : Int)) := hX2.cell 3
  have r4 : w2.cell? ⟨p, 4, none⟩ = some (.int .u64 (tq : Int)) := hX2.cell 4
  have q0 : w2.cell? ⟨c, 4, none⟩ = some (.int .i64 6) := (hC2.cell 4).trans ((cliA_wait s q i b wt 0).trans w0)
  have q1 : w2.cell? ⟨c, 43, none⟩ = some (.int .u64 (tb : Int)) := (hC2.cell 43).trans ((cliA_wait s q i b wt 39).trans w39)
  have q2 : w2.cell? ⟨c, 44, none⟩ = some (.int .u64 (ts : Int)) := (hC2.cell 44).trans ((cliA_wait s q i b wt 40).trans w40)
  have q3 : w2.cell? ⟨c, 45, none⟩ = some (.int .u64 (tq : Int)) := (hC2.cell 45).trans ((cliA_wait s q i b wt 41).trans w41)
  go_upto_region 2 with fail
  go_quiet (fail)
  have hX3 := hX2.dn nq
  have hY3 := hY2.dn nq
  have hC3 := hC2.dn nq
  have hcw3 := hcw2.drewN nq
  clear r2 r3 r4 q0 q1 q2 q3 hX2 hY2 hC2 hcw2
  generalize World.drewN w2 nq = w3 at *
  go_upto_region 5 with (go_at_call 41; refine (forget hC3 hwt).mono ?_; rintro e w4 ⟨rfl, hC4, hd4⟩)
  have hX4 := hX3.chg hd4 hne.1
  have hY4 := hY3.chg hd4 hne.2.1
  have hcw4 : Chg (fun k => k = c) w w4 := (chgX hcw3).trans hd4 fun _ _ h => h
  clear hX3 hY3 hC3 hcw3 hd4
  have r2 : w4.cell? ⟨p, 2, none⟩ = some (.int .u64 (tb : Int)) := hX4.cell 2
  have r3 : w4.cell? ⟨p, 3, none⟩ = some (.int .u64 (ts : Int)) := hX4.cell 3
  have r4 : w4.cell? ⟨p, 4, none⟩ = some (.int .u64 (tq : Int)) := hX4.cell 4
  have r5 : w4.cell? ⟨p, 5, none⟩ = some (.int .i64 0) := hX4.cell 5
  have hB4 := Blk.new w4 81 zeroH
  have hcz := (Chg.refl Non w4).alloc (.cells zeroH 81)
  go_upto_region 6 with (refine wpList_plain rfl fun _ hK => wp_store_a info_heard (.tmp 5) (.tmp 39) rfl w4.heap.size #[.bool true, .int .i64 0, .int .i64 0, .int .i64 0, .slice none 0 0, .slice none 0 0, .int .u64 (tb : Int), .int .u64 (ts : Int), .int .u64 (tq : Int)] rfl rfl zeroH hB4 rfl rfl (by simp [Value.oneCell']) fun w5 hZ hdz => hK _ _ ?_)
  obtain ⟨g5, hg5⟩ : ∃ g, g = w4.heap.size := ⟨_, rfl⟩
  rw [← hg5] at hZ hdz ⊢
  have hg5l : c < g5 ∧ p < g5 ∧ g < g5 := by have := hC4.lt; have := hX4.lt; have := hY4.lt; omega
  have hd5 : Chg Non w4 w5 := hcz.trans hdz fun k hk e => by omega
  clear hg5 r2 r3 r4 r5 hB4 hcz hdz
  have hX5 := hX4.c0 hd5
  have hY5 := hY4.c0 hd5
  have hcw5 := hcw4.trans0 hd5
  have hr5 := hr.chg hcw5 (fun k hk => (hF k hk).2)
  clear hX4 hY4 hC4 hcw4 hd5 hr
  have r5 : w5.cell? ⟨p, 5, none⟩ = some (.int .i64 0) := hX5.cell 5
  have r6 : w5.cell? ⟨p, 6, none⟩ = some (.slice DA dn dc) := hX5.cell 6
  go_upto_region 8 with (go_at_call 68; refine (toReply hr5 hkl).mono ?_; rintro e w6 ⟨g1, c1, g2, c2, kv, rfl, k1, k2, hkv, l1, l2, l3, l4, hkn, hd6⟩)
  have hO := Blk.new w6 43 #[.int .i64 0, .int .i64 0, .slice (some ⟨g1, 0, none⟩) 1 c1, .slice none 0 0]
  have hd7 := (Chg.refl Non w6).alloc (.cells #[.int .i64 0, .int .i64 0, .slice (some ⟨g1, 0, none⟩) 1 c1, .slice none 0 0] 43)
  obtain ⟨g6, hg6⟩ : ∃ g, g = w6.heap.size := ⟨_, rfl⟩
  rw [← hg6] at hO ⊢
  have hs6 := hd6.size
  have hg6l : g5 < g6 := by have := hZ.lt; omega
  have hg16 : g1 < g6 ∧ g2 < g6 := by omega
  clear hg6 r5 r6
  generalize hww : World.alloc w6 _ = w7
  rw [show w6.alloc (.cells #[.int .i64 0, .int .i64 0, .slice (some ⟨g1, 0, none⟩) 1 c1, .slice none 0 0] 43) = w7 from hww] at hd7 hO
  clear hww
  have hY7 := (hY5.c0 hd6).c0 hd7
  have hZ7 := (hZ.c0 hd6).c0 hd7
  have hcw7 := (hcw5.trans0 hd6).trans0 hd7
  have k17 := hd7.cell k1 (fun h => h)
  have k27 := hd7.cell k2 (fun h => h)
  have hk7 := hkv.chg hd7 fun _ _ h => h
  have hg5w : g5 < w5.heap.size := hZ.lt
  have hs7 := hd7.size
  clear hX5 hY5 hZ hcw5 hr5 k1 k2 hd6 hd7
  go_upto_region 8 with fail
  obtain ⟨S, hSd⟩ : ∃ S : World → Prop, ∀ w', S w' ↔ (w'.cell? ⟨g6, 0, none⟩ = some (.int .i64 0) ∧ w'.cell? ⟨g6, 1, none⟩ = some (.int .i64 0) ∧ w'.cell? ⟨g6, 2, none⟩ = some (.slice (some ⟨g1, 0, none⟩) 1 c1) ∧ w'.cell? ⟨g6, 3, none⟩ = some (.slice none 0 0)) := ⟨_, fun _ => Iff.rfl⟩
  have HSd := hide hSd
  have HSB := hide (fun (w' : World) (h : Blk w' g6 43 #[.int .i64 0, .int .i64 0, .slice (some ⟨g1, 0, none⟩) 1 c1, .slice none 0 0]) => (hSd w').2 ⟨h.cell 0, h.cell 1, h.cell 2, h.cell 3⟩)
  have HS := hide (HSB.out w7.drew hO)
  clear hSd
  refine wp_region_T S 99 (by kernel_rfl) ?_
  have hdd := (Chg.refl Non w7).drew
  have hO8 := hO.c0 hdd
  have hY8 := hY7.c0 hdd
  have hZ8 := hZ7.c0 hdd
  have hcw8 := hcw7.trans0 hdd
  have k18 := hdd.cell k17 (fun h => h)
  have k28 := hdd.cell k27 (fun h => h)
  have hk8 := hk7.chg hdd fun _ _ h => h
  generalize World.drew w7 = w8 at hdd hO8 hY8 hZ8 hcw8 k18 k28 hk8 HS ⊢
  have hs8 := hdd.size
  clear hdd hO hY7 hZ7 hcw7 k17 k27 hk7
  refine AnyT.take (i := 0) (v := ?_) rfl (by kernel_rfl) (by kernel_rfl) (fun _ _ _ h => h) (by kernel_rfl) (by kernel_rfl) (Or.inl ⟨by rfl, ?_⟩) HS.out ?_
  rotate_left
  · (intro w9 h9; first | (go_simp; with_reducible rfl) | (obtain ⟨y0, y1, y2, y3⟩ := (HSd.out _).1 h9; go_simp; try with_reducible rfl))
  try simp only [getElem_toArray, getElem_cons_succ, getElem_cons_zero, Act.put, setIfInBounds_toArray, set_cons_zero, set_cons_succ]
  refine AnyT.take (i := 1) (v := ?_) rfl (by kernel_rfl) (by kernel_rfl) (fun _ _ _ h => h) (by kernel_rfl) (by kernel_rfl) (Or.inl ⟨by rfl, ?_⟩) HS.out ?_
  rotate_left
  · (intro w9 h9; first | (go_simp; with_reducible rfl) | (obtain ⟨y0, y1, y2, y3⟩ := (HSd.out _).1 h9; go_simp; try with_reducible rfl))
  try simp only [getElem_toArray, getElem_cons_succ, getElem_cons_zero, Act.put, setIfInBounds_toArray, set_cons_zero, set_cons_succ]
  refine AnyT.take (i := 2) (v := ?_) rfl (by kernel_rfl) (by kernel_rfl) (fun _ _ _ h => h) (by kernel_rfl) (by kernel_rfl) (Or.inl ⟨by rfl, ?_⟩) HS.out ?_
  rotate_left
  · (intro w9 h9; first | (go_simp; with_reducible rfl) | (obtain ⟨y0, y1, y2, y3⟩ := (HSd.out _).1 h9; go_simp; try with_reducible rfl))
  try simp only [getElem_toArray, getElem_cons_succ, getElem_cons_zero, Act.put, setIfInBounds_toArray, set_cons_zero, set_cons_succ]
  refine AnyT.take (i := 3) (v := ?_) rfl (by kernel_rfl) (by kernel_rfl) (fun _ _ _ h => h) (by kernel_rfl) (by kernel_rfl) (Or.inl ⟨by rfl, ?_⟩) HS.out ?_
  rotate_left
  · (intro w9 h9; first | (go_simp; with_reducible rfl) | (obtain ⟨y0, y1, y2, y3⟩ := (HSd.out _).1 h9; go_simp; try with_reducible rfl))
  try simp only [getElem_toArray, getElem_cons_succ, getElem_cons_zero, Act.put, setIfInBounds_toArray, set_cons_zero, set_cons_succ]
  have hth := there_of (o := 2) (n := 4) hZ8 (by simp)
  have hm : Blk (w8.setCells g5 2 [.int .i64 0, .int .i64 0, .slice (some ⟨g1, 0, none⟩) 1 c1, .slice none 0 0]) g5 81 #[.bool true, .int .i64 0, .int .i64 0, .int .i64 0, .slice (some ⟨g1, 0, none⟩) 1 c1, .slice none 0 0, .int .u64 (tb : Int), .int .u64 (ts : Int), .int .u64 (tq : Int)] ∧ Chg (fun k => k = g5) w8 (w8.setCells g5 2 [.int .i64 0, .int .i64 0, .slice (some ⟨g1, 0, none⟩) 1 c1, .slice none 0 0]) := setCells_blk [.int .i64 0, .int .i64 0, .slice (some ⟨g1, 0, none⟩) 1 c1, .slice none 0 0] [.bool true, .int .i64 0] [.int .i64 0, .int .i64 0, .slice none 0 0, .slice none 0 0] [.int .u64 (tb : Int), .int .u64 (ts : Int), .int .u64 (tq : Int)] w8 rfl hZ8
  have HTH := hide (And.intro hth hm)
  clear hth hm
  refine AnyT.one (i := 4) (by kernel_rfl) rfl (fun K hK => ?_)
  rw [if_pos (by rfl)]
  try simp only [getElem_toArray, getElem_cons_succ, getElem_cons_zero, Act.put, setIfInBounds_toArray, set_cons_zero, set_cons_succ]
  refine wp_store_mid (P := Try.prog) 43 (.tmp 52) (.tmp 49) rfl g5 2 #[.int .i64 0, .int .i64 0, .slice (some ⟨g1, 0, none⟩) 1 c1, .slice none 0 0] rfl rfl HTH.out.1 info_outc (by simp [Value.oneCell']) ?_
  refine hK.out _ _ (fun _ => HSB.out _ (hO8.chg HTH.out.2.2 (fun e => by omega))) ?_
  clear hK K
  have hm := HTH.out.2
  try simp only [getElem_toArray, getElem_cons_succ, getElem_cons_zero, Act.put, setIfInBounds_toArray, set_cons_zero, set_cons_succ]
  generalize World.setCells _ _ _ _ = w9 at hm ⊢
  obtain ⟨hZ9, hd9⟩ := hm
  have hO9 := hO8.chg hd9 (fun e => by omega)
  replace HS := hide (HSB.out w9 hO9)
  refine AnyT.take (i := 5) (v := ?_) rfl (by kernel_rfl) (by kernel_rfl) (fun _ _ _ h => h) (by kernel_rfl) (by kernel_rfl) (Or.inl ⟨by rfl, ?_⟩) HS.out ?_
  rotate_left
  · (intro w9 h9; first | (go_simp; with_reducible rfl) | (obtain ⟨y0, y1, y2, y3⟩ := (HSd.out _).1 h9; go_simp; try with_reducible rfl))
  try simp only [getElem_toArray, getElem_cons_succ, getElem_cons_zero, Act.put, setIfInBounds_toArray, set_cons_zero, set_cons_succ]
  refine AnyT.one (i := 6) (by kernel_rfl) rfl (fun K hK => ?_)
  rw [if_pos (by rfl)]
  try simp only [getElem_toArray, getElem_cons_succ, getElem_cons_zero, Act.put, setIfInBounds_toArray, set_cons_zero, set_cons_succ]
  have z1 : w9.cell? ⟨g5, 1, none⟩ = some (.int .i64 0) := hZ9.cell 1
  have f1 := hZ9.frozen 1
  go_wp2_with fail
  have hZA : Blk (w9.setCell ⟨g5, 1, none⟩ (.int .i64 0)) g5 81 #[.bool true, .int .i64 0, .int .i64 0, .int .i64 0, .slice (some ⟨g1, 0, none⟩) 1 c1, .slice none 0 0, .int .u64 (tb : Int), .int .u64 (ts : Int), .int .u64 (tq : Int)] := hZ9.set_ 1 (.int .i64 0)
  have hdA : Chg (fun k => k = g5) w9 (w9.setCell ⟨g5, 1, none⟩ (.int .i64 0)) := Chg.setCell (S := fun k => k = g5) (Chg.refl _ w9) (p := ⟨g5, 1, none⟩) (fun _ => rfl) _
  generalize World.setCell w9 _ _ = wA at hZA hdA ⊢
  have hd9A := hd9.trans hdA fun _ _ h => h
  refine hK.out _ _ (fun _ => HSB.out wA (hO9.chg hdA (fun e => by omega))) ?_
  clear hK K
  try simp only [getElem_toArray, getElem_cons_succ, getElem_cons_zero, Act.put, setIfInBounds_toArray, set_cons_zero, set_cons_succ]
  refine AnyT.nil (by kernel_rfl) ?_
  have hYA := hY8.chg hd9A (fun e => by omega)
  have kA1 := hd9A.cell k18 (fun e => by have : g1 = g5 := e; omega)
  have kA2 := hd9A.cell k28 (fun e => by have : g2 = g5 := e; omega)
  have hkA := hk8.chg hd9A (fun k h e => by have := (hk8.lt k h).1; omega)
  have hcwA : Chg (fun k => k = c) w wA := hcw8.trans hd9A fun k hk e => by have := HPG.out; omega
  clear HS HSB HSd hO8 hO9 hY8 hZ8 hZ9 hcw8 k18 k28 hk8 hd9 hdA hd9A z1 f1 HTH
  go_wp2_with (first | (refine wpList_load_row rfl 81 (.tmp 5) rfl g5 rfl 81 #[.bool true, .int .i64 0, .int .i64 0, .int .i64 0, .slice (some ⟨g1, 0, none⟩) 1 c1, .slice none 0 0, .int .u64 (tb : Int), .int .u64 (ts : Int), .int .u64 (tq : Int)] (0, 0) _ hZA Try.underlying81 rfl info_heard ?_) | (refine wpList_plain rfl fun _ hK => wp_store_a info_heard (.tmp 4) (.tmp 58) rfl g #[.bool true, .int .i64 0, .int .i64 0, .int .i64 0, .slice (some ⟨g1, 0, none⟩) 1 c1, .slice none 0 0, .int .u64 (tb : Int), .int .u64 (ts : Int), .int .u64 (tq : Int)] rfl rfl _ hYA rfl rfl (by simp [Value.oneCell']) fun wB hPB hcB => hK _ _ ?_))
  refine bodyPost_ret (results_cell_row (P := Try.prog) rfl _ _ g 81 _ (0, 0) _ rfl hPB Try.underlying81 rfl info_heard) rfl ?_
  have hgw : w.heap.size < g5 := by have := HPG.out; omega
  refine ⟨g1, c1, g2, c2, kv, rfl, hcB.cell kA1 (fun e => by have : g1 = g := e; omega), hcB.cell kA2 (fun e => by have : g2 = g := e; omega), (hkA.chg hcB fun k h e => by have := (hkA.lt k h).1; omega).low (by omega), by omega, ?_, by omega, ?_, hkn, hcwA.trans hcB fun k hk e => by have := HPG.out; omega⟩
  · exact Nat.lt_of_lt_of_le (World.block_lt_of_cell? _ _ kA1) hcB.size
  · exact Nat.lt_of_lt_of_le (World.block_lt_of_cell? _ _ kA2) hcB.size
end Go.Proofs.Ytncchbcoldgpbaa

namespace Go.Proofs.Ytncchbcoldgpbaa
open Go.RowKit
set_option linter.unusedVariables false
set_option linter.unusedSimpArgs false
set_option maxHeartbeats 16000000 in
set_option maxRecDepth 100000 in
theorem takeReply {c s q i b tb ts tq : Nat} {wt : List Value} {arr : Array Value} {dv : Value} {key : List UInt8} {F : Nat → Prop} {w : World} (hC : Blk w c 116 (cliA s q i b wt)) (hwt : wt.length = 65) (w0 : wt[0]? = some (.int .i64 6))
    (w39 : wt[39]? = some (.int .u64 (tb : Int))) (w40 : wt[40]? = some (.int .u64 (ts : Int))) (w41 : wt[41]? = some (.int .u64 (tq : Int))) (hr : RdB w F dv (replyY key)) (hkl : key.length ≤ 1000000) (hF : ∀ k, F k → k < w.heap.size ∧ k ≠ c)
    (hs : U64 (s + 16)) (h0 : arr[0]? = some (.int .i64 7)) (h2 : arr[2]? = some (.int .u64 ((s + 16 : Nat) : Int))) (h43 : arr[43]? = some (.int .u64 (i : Int))) (h44 : arr[44]? = some (.int .u64 (b : Int))) (h45 : arr[45]? = some (.int .u64 (tb : Int))) (h46 : arr[46]? = some (.int .u64 (ts : Int))) (h47 : arr[47]? = some (.int .u64 (tq : Int))) (h48 : arr[48]? = some (.int .i64 0)) (h49 : arr[49]? = some (dv)) :
    Calls Try.prog 16 #[.pointer (some ⟨c, 0, none⟩), .agg arr] w fun e w' => ∃ (g1 c1 g2 c2 : Nat) (kv : Value), e = .returned (.agg #[.bool true, .int .i64 0, .int .i64 0, .int .i64 0, .slice (some ⟨g1, 0, none⟩) 1 c1, .slice none 0 0, .int .u64 (tb : Int), .int .u64 (ts : Int), .int .u64 (tq : Int)]) ∧
      w'.cell? ⟨g1, 0, none⟩ = some (.slice (some ⟨g2, 0, none⟩) 1 c2) ∧ w'.cell? ⟨g2, 0, none⟩ = some kv ∧ OwnB w' w.heap.size kv key ∧ w.heap.size ≤ g1 ∧ g1 < w'.heap.size ∧ w.heap.size ≤ g2 ∧ g2 < w'.heap.size ∧ (∀ k, kv.ownBlock = some k → k ≠ g1 ∧ k ≠ g2) ∧ Chg (fun k => k = c) w w' := by
  obtain ⟨DA, dn, dc, rfl⟩ : ∃ A m c, dv = .slice A m c := by obtain ⟨A, c, e, _⟩ := hr.shape; exact ⟨A, _, c, e⟩
  have hX := Blk.new w 63 arr
  have hcA := (Chg.refl Non w).alloc (.cells arr 63)
  have hsA : (w.alloc (.cells arr 63)).heap.size = w.heap.size + 1 := by simp
  have hY := Blk.new (w.alloc (.cells arr 63)) 81 zeroH
  have hcB := (Chg.refl Non (w.alloc (.cells arr 63))).alloc (.cells zeroH 81)
  have hXB := hX.c0 hcB
  have hcW := hcA.trans0 hcB
  have hC0 := hC.c0 hcW
  have hcl := hC.lt
  rw [hsA] at hY
  have hw : IntKind.u64.wrap ((s : Int) + 16) = ((s + 16 : Nat) : Int) := wrap_u64n hs
  obtain ⟨f, hf⟩ : ∃ f : Nat, f = s + 16 := ⟨_, rfl⟩
  rw [← hf] at hw h2
  clear hX hcA hcB hf hs
  have hzz : (#[.bool false, .int .i64 0, .int .i64 0, .int .i64 0, .slice none 0 0, .slice none 0 0, .int .u64 0, .int .u64 0, .int .u64 0] : Array Value) = zeroH := rfl
  go_enter Try.func16, Try.ntmps16
  go_upto_region 1 with fail
  try rw [hzz]
  clear hsA
  obtain ⟨p, hp⟩ : ∃ p, p = w.heap.size := ⟨_, rfl⟩
  obtain ⟨g, hg⟩ : ∃ g, g = w.heap.size + 1 := ⟨_, rfl⟩
  rw [← hg] at hY
  rw [← hp] at hXB
  rw [← hg, ← hp]
  generalize World.alloc (World.alloc w _) _ = w1 at hY hXB hcW hC0 ⊢
  have hpg : p ≠ c ∧ g ≠ c := by omega
  have HPG := hide (And.intro hp hg)
  clear hp hg hC
  have p2 : w1.cell? ⟨p, 2, none⟩ = some (.int .u64 (f : Int)) := (hXB.cell 2).trans h2
  have p0 : w1.cell? ⟨p, 0, none⟩ = some (.int .i64 7) := (hXB.cell 0).trans h0
  have c0 : w1.cell? ⟨c, 0, none⟩ = some (.int .u64 (s : Int)) := hC0.cell 0
  have p43 : w1.cell? ⟨p, 43, none⟩ = some (.int .u64 (i : Int)) := (hXB.cell 43).trans h43
  have p44 : w1.cell? ⟨p, 44, none⟩ = some (.int .u64 (b : Int)) := (hXB.cell 44).trans h44
  have p45 : w1.cell? ⟨p, 45, none⟩ = some (.int .u64 (tb : Int)) := (hXB.cell 45).trans h45
  have p46 : w1.cell? ⟨p, 46, none⟩ = some (.int .u64 (ts : Int)) := (hXB.cell 46).trans h46
  have p47 : w1.cell? ⟨p, 47, none⟩ = some (.int .u64 (tq : Int)) := (hXB.cell 47).trans h47
  have p48 : w1.cell? ⟨p, 48, none⟩ = some (.int .i64 0) := (hXB.cell 48).trans h48
  have p49 : w1.cell? ⟨p, 49, none⟩ = some (.slice DA dn dc) := (hXB.cell 49).trans h49
  have hr1 := hr.c0 hcW
  have hF1 : ∀ k, F k → k < w1.heap.size ∧ k ≠ c := fun k hk => ⟨Nat.lt_of_lt_of_le (hF k hk).1 hcW.size, (hF k hk).2⟩
  go_quiet (fail)
  have hC2 := hC0.dn nq
  have hY2 := hY.dn nq
  have hcn := (Chg.refl Non w1).drewN nq
  have hr2 := hr1.c0 hcn
  have HRP := hide (replyOne hC2 hwt w0 w39 w40 w41 hr2 hkl (fun k hk => ⟨Nat.lt_of_lt_of_le (hF1 k hk).1 hcn.size, (hF1 k hk).2⟩))
  go_wp2_with (first | (go_at_call 40; refine HRP.out.mono ?_; rintro e w2 ⟨g1, c1, g2, c2, kv, rfl, k1, k2, hkv, l1, l2, l3, l4, hkn, hd2⟩; have hYY := hY2.chg hd2 (fun e => hpg.2 e)) | (refine wpList_plain rfl fun _ hK => wp_store_a info_heard (.tmp 4) (.tmp 28) rfl g #[.bool true, .int .i64 0, .int .i64 0, .int .i64 0, .slice (some ⟨g1, 0, none⟩) 1 c1, .slice none 0 0, .int .u64 (tb : Int), .int .u64 (ts : Int), .int .u64 (tq : Int)] rfl rfl _ hYY rfl rfl (by simp [Value.oneCell']) fun wB hPB hcB => hK _ _ ?_))
  refine bodyPost_ret (results_cell_row (P := Try.prog) rfl _ _ g 81 _ (0, 0) _ rfl hPB Try.underlying81 rfl info_heard) rfl ?_
  have hsz := hcW.size
  have hsn := hcn.size
  have hgl : g < w1.heap.size := hY.lt
  refine ⟨g1, c1, g2, c2, kv, rfl, hcB.cell k1 (fun e => by have : g1 = g := e; omega), hcB.cell k2 (fun e => by have : g2 = g := e; omega), (hkv.chg hcB fun k h e => by have := (hkv.lt k h).1; omega).low (by omega), by omega, ?_, by omega, ?_, hkn, ?_⟩
  · exact Nat.lt_of_lt_of_le l2 hcB.size
  · exact Nat.lt_of_lt_of_le l4 hcB.size
  · exact (((chgX hcW).trans (chgX hcn) fun _ _ h => h).trans hd2 fun _ _ h => h).trans hcB fun k hk e => by have := HPG.out; omega
end Go.Proofs.Ytncchbcoldgpbaa
