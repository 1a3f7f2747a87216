/- RecKeeps, where what it reads is of bulk at most 1048576: no call of rec changes or keeps what it is handed, and all answers are memory of their own. -/
import Derived.Test.YtnedinbgibjjoaaBtw
import Derived.Test.YtnedinbgibjjoaaRecZM
import Derived.Test.YtnedinbgibjjoaaOpen
import Derived.Test.YtnedinbgibjjoaaApart
import Derived.Test.YtnedinbgibjjoaaKept
namespace Go.Proofs.Ytnedinbgibjjoaa.recKeeps
open Go.ChangeShapes Go.WideShapes Go.ChangeAt Go.RowKit
set_option linter.unusedVariables false
set_option linter.unusedSimpArgs false

def xr (k v : List UInt8) : RcS := { zeroR with kind := 4, ws := [⟨k, v, false⟩], reply := v }
theorem xr_sm {k v : List UInt8} (h : k.length + v.length + 1 ≤ 1048576) : RcSm (xr k v) :=
  ⟨by simp only [xr, triW, List.map_cons, List.map_nil, List.sum_cons, List.sum_nil]; omega, (by decide : triW [] ≤ 1048576), (by decide : 1 ≤ 1048576), (by decide : 0 ≤ 1048576), (by decide : 0 ≤ 1048576), by simp only [xr]; omega, (by decide : 0 ≤ 1048576)⟩
theorem xr_wf (k v : List UInt8) : RcWf (xr k v) := ⟨⟨by unfold U64; exact (by decide : (0:Nat) < 18446744073709551616), by unfold U64; exact (by decide : (0:Nat) < 18446744073709551616), by unfold U64; exact (by decide : (0:Nat) < 18446744073709551616), by unfold U64; exact (by decide : (0:Nat) < 18446744073709551616)⟩, fun s hs => by cases hs⟩
theorem xr_trim (k v : List UInt8) : trimR (xr k v) = xr k v := rfl
theorem rdW_lit {w : World} {F : Nat → Prop} {g : Nat} {ty : TypeId} {p q : Value} {a b : List UInt8} {f : Bool} (h : Blk w g ty #[p, q, .bool f]) (hp : RdB w F p a) (hq : RdB w F q b) (hF : F g) : RdW w F (.slice (some ⟨g, 0, none⟩) 1 1) [⟨a, b, f⟩] := by
  refine ⟨[(p, q)], rfl, ⟨rfl, _, 1, rfl, Nat.le_refl _, by simp [maxLen], fun _ => ⟨_, rfl, hF, fun j u hu => ?_⟩⟩, fun i x y hx hy => ?_⟩
  · rw [add_none, h.cell, Nat.zero_add]
    rw [← hu]; exact List.getElem?_toArray
  · match i, hx, hy with
    | 0, hx, hy =>
      simp at hx hy
      subst hx; subst hy
      exact ⟨hp, hq⟩
    | i + 1, hx, hy => simp at hx
theorem rdP_lit {w : World} {F : Nat → Prop} {g t : Nat} {x : RcS} {a b c d : Value} (h : Blk w g 51 (posL x a b c d t).toArray) (hr : RecR w F x a b c d) (hs : RcSm x) (hF : F g) : RdP w F (.slice (some ⟨g, 0, none⟩) 1 1) [(x, t)] := by
  refine ⟨[(a, b, c, d)], rfl, ⟨rfl, _, 1, rfl, Nat.le_refl _, by simp [maxLen], fun _ => ⟨_, rfl, hF, fun j u hu => ?_⟩⟩, fun i q p hq hp => ?_⟩
  · rw [add_none, h.cell, Nat.zero_add]
    rw [← hu, show flP [(a, b, c, d)] [(x, t)] = posL x a b c d t by simp [flP]]; exact List.getElem?_toArray
  · match i, hq, hp with
    | 0, hq, hp =>
      simp at hq hp
      subst hq; subst hp
      exact ⟨hr, hs⟩
    | i + 1, hq, hp => simp at hq
theorem row_cells {w : World} {base sz n : Nat} {e : TypeId} {v : Value} {xs : List Value} (h : w.ownsRow base e sz v n xs) (hn : 0 < n) : ∃ g c, v = .slice (some ⟨g, 0, none⟩) n c ∧ ∀ (j : Nat) (u : Value), xs[j]? = some u → w.cell? ⟨g, j, none⟩ = some u := by
  obtain ⟨g, c, rfl, _, _, _⟩ := row_some h hn
  obtain ⟨_, A', c', e, _, _, h2⟩ := RdV.of_own h
  injection e with e1 e2 e3
  subst e1
  obtain ⟨ad, e, _, hc⟩ := h2 hn
  injection e with e
  subst e
  refine ⟨g, c, rfl, fun j u hu => ?_⟩
  have := hc j u hu
  rwa [add_none, Nat.zero_add] at this
theorem recY_xr {k v : List UInt8} (h : k.length + v.length + 1 ≤ 1048576) : (recY (xr k v)).length ≤ 900000000 := by
  have h1 := joinB_len ([kiB 4] :: [txB (xr k v), triB [⟨k, v, false⟩], v])
  have h2 := joinB_len [flB false, k, v]
  have h3 := txB_len (xr k v)
  have h4 : recY (xr k v) = joinB ([kiB 4] :: [txB (xr k v), triB [⟨k, v, false⟩], v]) := rfl
  have h5 : triB [⟨k, v, false⟩] = joinB [flB false, k, v] := rfl
  have h6 : (flB false).length = 1 := rfl
  rw [h4]
  rw [h5] at h1 ⊢
  simp only [List.map_cons, List.map_nil, List.sum_cons, List.sum_nil, List.length_cons, List.length_nil, h6] at h1 h2
  omega
theorem ls_len {k v y : List UInt8} {a b c d e f g h i j : Value} {ls : List (Value × List UInt8)} (hls : ls = [(a, spareL k), (b, spareL v), (c, y), (d, spareL y), (e, k), (f, v), (g, v), (h, k), (i, v), (j, v)]) (hy : y.length ≤ 900000000) (hb : k.length + v.length + 1 ≤ 1048576) :
    ∀ n : Nat, (((ls.map (·.2))[n]?).getD []).length ≤ 1000000000 := fun n => by
  have h1 := spareL_len k
  have h2 := spareL_len v
  have h3 := spareL_len y
  have h5 : ∀ l ∈ ls.map (·.2), l.length ≤ 1000000000 := fun l hl => by
    rw [hls] at hl
    simp only [List.map_cons, List.map_nil, List.mem_cons, List.not_mem_nil, or_false] at hl
    rcases hl with rfl | rfl | rfl | rfl | rfl | rfl | rfl | rfl | rfl | rfl <;> omega
  cases hz : (ls.map (·.2))[n]? with
  | none => simp
  | some l => exact h5 l (List.mem_of_getElem? hz)
theorem ofq {w w' : World} (h : ∃ k, w' = w.drewN k) : Chg Non w w' := (Chg.refl _ _).quiet h
/-- what Read or Between made of the record -/
theorem own_xr {w : World} {base : Nat} {k v : List UInt8} {a b c d : Value} {xs ys : List (Value × Value)} (h : RecOwn w base (xr k v) a b c d xs ys) :
    ∃ p q g cp, a = .slice (some ⟨g, 0, none⟩) 1 cp ∧ w.cell? ⟨g, 0, none⟩ = some p ∧ w.cell? ⟨g, 1, none⟩ = some q ∧ OwnPs w base [(p, k), (q, v), (d, v)] := by
  obtain ⟨h1, h2, h3, h4, h5, h6⟩ := h
  rcases xs with _ | ⟨⟨p, q⟩, xs⟩
  · cases h1
  · have hx : xs = [] := List.eq_nil_of_length_eq_zero (by simpa [xr] using h1)
    have hy : ys = [] := List.eq_nil_of_length_eq_zero h2
    subst hx; subst hy
    obtain ⟨g, cp, rfl, hc⟩ := row_cells h3 (show 0 < (xr k v).ws.length from Nat.one_pos)
    exact ⟨p, q, g, cp, rfl, hc 0 p rfl, hc 1 q rfl, h6⟩
theorem OwnPs.ch {w : World} {base : Nat} : ∀ {r : List (Value × List UInt8)}, OwnPs w base r → OwnCh w base r
  | [], _ => trivial
  | (x, l) :: r, ⟨h1, h2⟩ => by
    obtain ⟨h3, h4⟩ := List.pairwise_cons.1 h2
    exact ⟨h1 (x, l) (by simp), fun p hp b hb => h3 p hp b hb, OwnPs.ch ⟨fun p hp => h1 p (by simp [hp]), h4⟩⟩

set_option maxHeartbeats 16000000 in
set_option maxRecDepth 100000 in
theorem walk {W : World} {v1 v2 : Value} {key val : List UInt8} (hk : RdB W (fun k => k < W.heap.size) v1 key) (hv : RdB W (fun k => k < W.heap.size) v2 val) (hb : key.length + val.length + 1 ≤ 1048576) :
    Calls Try.prog 4 #[v1, v2] W fun e W' => e = .returned (.bool true) ∧ Chg Non W W' := by
  obtain ⟨V1, e1, e2, rfl⟩ := hk.sl
  obtain ⟨V2, e3, e4, rfl⟩ := hv.sl
  have hsm := xr_sm hb
  have hYl := recY_xr hb
  have HSM := hide hsm
  have HYL := hide hYl
  have HB := hide hb
  clear hsm hYl
  have hkl : key.length ≤ 1000000000000 := by omega
  have hvl : val.length ≤ 1000000000000 := by omega
  go_enter Try.func4, Try.ntmps4
  go_upto_region 5 with (first
    | (have z := hs1; go_at_call 15; refine (refSpare hv2 hvl).mono ?_; rintro e w3 ⟨x2, f2, rfl, hs2, hr2, hc3⟩; obtain ⟨X2, x2n, x2c, rfl⟩ := hr2.sl; obtain ⟨F2, f2n, f2c, rfl⟩ := hs2.sl)
    | (go_at_call 15; refine (refSpare hk1 hkl).mono ?_; rintro e w2 ⟨x1, f1, rfl, hs1, hr1, hc2⟩; obtain ⟨X1, x1n, x1c, rfl⟩ := hr1.sl; obtain ⟨F1, f1n, f1c, rfl⟩ := hs1.sl; have hv2 := hv1.c0 hc2)
    | (go_at_call 6; refine awake06.mono ?_; rintro e w1 ⟨rfl, hc1⟩; have hk1 := hk.c0 hc1; have hv1 := hv.c0 hc1))
  clear hkl hvl
  obtain ⟨hG0, hX0, hK0⟩ := box2 w3 #[.slice X1 x1n x1c, .slice X2 x2n x2c, .bool false] #[.int .i64 4, .int .u64 0, .int .u64 0, .int .u64 0, .slice (some ⟨w3.heap.size, 0, none⟩) 1 1, .slice none 0 0, .bool false, .slice none 0 0, .slice X2 x2n x2c, .int .u64 0, .string ⟨#[]⟩] 47 32
  go_upto_region 6 with fail
  obtain ⟨bg, hbg⟩ : ∃ b, b = w3.heap.size := ⟨_, rfl⟩
  rw [← hbg] at hG0 hX0 hK0 ⊢
  generalize World.alloc _ _ = w4 at hG0 hX0 hK0 ⊢
  obtain ⟨bx, hbx⟩ : ∃ b, b = bg + 1 := ⟨_, rfl⟩
  rw [← hbx] at hX0 ⊢
  clear hbx hbg
  have hrX : RecR w4 (fun _ => True) (xr key val) (.slice (some ⟨bg, 0, none⟩) 1 1) (.slice none 0 0) (.slice none 0 0) (.slice X2 x2n x2c) := ⟨rdW_lit hG0 ((hr1.c0 (hc3.trans0 hK0)).mono fun _ _ => trivial) ((hr2.c0 hK0).mono fun _ _ => trivial) trivial, RdW.nil_ _ _, RdV.nil_ _ _ _, (hr2.c0 hK0).mono fun _ _ => trivial, (xr_wf key val).u.1, (xr_wf key val).u.2.1, (xr_wf key val).u.2.2.1, (xr_wf key val).u.2.2.2, (by decide : (Lit.int .i64 4).wf = true)⟩
  have HX := hide hX0
  obtain ⟨c0, c1, c2, c3, c4, c5, c6, c7, c8, c9, c10⟩ := rblk hX0
  clear hX0 hG0 hr1 hr2
  go_upto_region 8 with (first
    | (go_at_call 15; refine (refSpare hu3.rd (by have := HYL.out; omega)).mono ?_; rintro e w6 ⟨s6, f3, rfl, hs3, hr3, hc6⟩; obtain ⟨X3, x3n, x3c, rfl⟩ := hr3.sl; obtain ⟨F3, f3n, f3c, rfl⟩ := hs3.sl)
    | (go_at_call 8; refine (recBytes hrX HSM.out).mono ?_; rintro e w5 ⟨u3, rfl, hu3, hc5⟩; obtain ⟨U3, u3n, u3c, rfl⟩ := hu3.sl))
  clear c0 c1 c2 c3 c4 c5 c6 c7 c8 c9 c10
  have hkd : 1 ≤ (xr key val).kind ∧ (xr key val).kind ≤ 9 := ⟨(by decide : (1 : Int) ≤ 4), (by decide : (4 : Int) ≤ 9)⟩
  go_upto_region 9 with (go_at_call 9; refine (recRead hr3 HSM.out (xr_wf _ _) hkd).mono ?_; rintro e w7 ⟨va, vb, vc, vd, xs1, ys1, rfl, hR, hc7⟩; rw [xr_trim] at hR ⊢; obtain ⟨_, ⟨C2, r2, t2, rfl⟩, ⟨C3, r3, t3, rfl⟩, ⟨C4, r4, t4, rfl⟩⟩ := hR.sl2; obtain ⟨p1, q1, g1, cp1, rfl, hp1, hq1, hps1⟩ := own_xr hR; unfold recC)
  clear hkd
  have hX := Blk.new w7 32 #[.int .i64 (xr key val).kind, .int .u64 ((xr key val).boot : Int), .int .u64 ((xr key val).sess : Int), .int .u64 ((xr key val).seq : Int), .slice (some ⟨g1, 0, none⟩) 1 cp1, .slice C2 r2 t2, .bool (xr key val).commit, .slice C3 r3 t3, .slice C4 r4 t4, .int .u64 ((xr key val).id : Int), .string (xr key val).name]
  have hcA := (Chg.refl Non w7).alloc (.cells #[.int .i64 (xr key val).kind, .int .u64 ((xr key val).boot : Int), .int .u64 ((xr key val).sess : Int), .int .u64 ((xr key val).seq : Int), .slice (some ⟨g1, 0, none⟩) 1 cp1, .slice C2 r2 t2, .bool (xr key val).commit, .slice C3 r3 t3, .slice C4 r4 t4, .int .u64 ((xr key val).id : Int), .string (xr key val).name] 32)
  obtain ⟨by_, hbx⟩ : ∃ b, b = w7.heap.size := ⟨_, rfl⟩
  rw [← hbx] at hX ⊢
  generalize World.alloc _ _ = w8 at hX hcA ⊢
  clear hbx
  have hX8 := HX.out.c0 ((hc5.trans0 hc6).trans0 (hc7.trans0 hcA))
  obtain ⟨c0, c1, c2, c3, c4, c5, c6, c7, c8, c9, c10⟩ := rblk hX8
  clear hX8
  have hcP := (Chg.refl Non w8).alloc (.cells #[.int .i64 4, .int .u64 0, .int .u64 0, .int .u64 0, .slice (some ⟨bg, 0, none⟩) 1 1, .slice none 0 0, .bool false, .slice none 0 0, .slice X2 x2n x2c, .int .u64 0, .string ⟨#[]⟩, .int .u64 0] 51)
  have hPB : Blk (w8.alloc (.cells #[.int .i64 4, .int .u64 0, .int .u64 0, .int .u64 0, .slice (some ⟨bg, 0, none⟩) 1 1, .slice none 0 0, .bool false, .slice none 0 0, .slice X2 x2n x2c, .int .u64 0, .string ⟨#[]⟩, .int .u64 0] 51)) w8.heap.size 51 (posL (xr key val) (.slice (some ⟨bg, 0, none⟩) 1 1) (.slice none 0 0) (.slice none 0 0) (.slice X2 x2n x2c) 0).toArray := Blk.new w8 _ _
  have hrP := hrX.c0 (((hc5.trans0 hc6).trans0 (hc7.trans0 hcA)).trans0 hcP)
  have hrdP := rdP_lit hPB hrP HSM.out trivial
  clear hPB hrP hrX
  go_upto_region 10 with (go_at_call 16; refine (recBetween (f := 0) (t := 1) (ks := []) (G := Non) hrdP (RdV.nil_ _ _ _) (by simp)).mono ?_; rintro e w9 ⟨uu, qs, rfl, hO, hc9⟩)
  clear c0 c1 c2 c3 c4 c5 c6 c7 c8 c9 c10 hrdP
  have hflt : [(xr key val, 0)].filter (inP 0 1 []) = [(xr key val, 0)] := by simp [inP]
  rw [hflt] at hO
  clear hflt
  rcases qs with _ | ⟨⟨ra, rb, rc, rd⟩, qs⟩
  · exact absurd hO.1 (by simp)
  have hqn : qs = [] := List.eq_nil_of_length_eq_zero (by have := hO.1; simpa using this)
  subst hqn
  obtain ⟨xs2, ys2, hR2⟩ := hO.2.2 0 _ _ rfl rfl
  have hrow2 : w9.ownsRow _ 51 12 uu 1 (posL (xr key val) ra rb rc rd 0) := hO.2.1
  obtain ⟨g2, cp2, rfl, hcell2⟩ := row_cells hrow2 Nat.one_pos
  simp only at hR2
  obtain ⟨_, _, _, ⟨D4, s4, i4, rfl⟩⟩ := hR2.sl2
  obtain ⟨p2, q2, g3, cp3, rfl, hp2, hq2, hps2⟩ := own_xr hR2
  have hca2 := hcell2 4 _ rfl
  have hcd2 := hcell2 8 _ rfl
  have z8 := hcP.trans0 hc9
  have z7 := hcA.trans0 z8
  have z6 := hc7.trans0 z7
  have z5 := hc6.trans0 z6
  have z4 := hc5.trans0 z5
  have z3 := hK0.trans0 z4
  have z2 := hc3.trans0 z3
  have z1 := hc2.trans0 z2
  have z0 := hc1.trans0 z1
  have l1 := hs1.lt
  have l2 := hs2.lt
  have l3 := hu3.lt
  have l4 := hs3.lt
  have l5 := hps1.lt
  have n12 := hc2.size
  have n23 := hc3.size
  have n34 := hK0.size
  have n45 := hc5.size
  have n56 := hc6.size
  have n67 := hc7.size
  have n78 := hcA.size
  have n8P := hcP.size
  have nP9 := hc9.size
  have n01 := hc1.size
  have o1 := hs1.c0 z2
  have o2 := hs2.c0 z3
  have o3 := hu3.c0 z5
  have o4 := hs3.c0 z6
  have hp3 := hps1.c0 z7
  have hall := OwnPs.app (base := w1.heap.size) (m := w2.heap.size) (OwnPs.one o1) (OwnPs.app (base := w2.heap.size) (m := w3.heap.size) (OwnPs.one o2) (OwnPs.app (base := w4.heap.size) (m := w5.heap.size) (OwnPs.one o3) (OwnPs.app (base := w5.heap.size) (m := w6.heap.size) (OwnPs.one o4) (OwnPs.app (base := w6.heap.size) (m := w7.heap.size) hp3 hps2 l5 (by omega) (Nat.le_refl _) (by omega)) (fun p hp k hk => by simp at hp; subst hp; exact (l4 k hk).2) (Nat.le_refl _) (Nat.le_refl _) (by omega)) (fun p hp k hk => by simp at hp; subst hp; exact (l3 k hk).2) (Nat.le_refl _) (Nat.le_refl _) (by omega)) (fun p hp k hk => by simp at hp; subst hp; exact (l2 k hk).2) (by omega) (Nat.le_refl _) (by omega)) (fun p hp k hk => by simp at hp; subst hp; exact (l1 k hk).2) (Nat.le_refl _) (Nat.le_refl _) (by omega)
  have hkc := hk.c0 z0
  have hvc := hv.c0 z0
  have hY9 := hX.c0 z8
  have hcy4 : w9.cell? ⟨by_, 4, none⟩ = some (.slice (some ⟨g1, 0, none⟩) 1 cp1) := hY9.cell 4
  have hcy8 : w9.cell? ⟨by_, 8, none⟩ = some (.slice C4 r4 t4) := hY9.cell 8
  have hp19 := z7.cell hp1 (fun h => h)
  have hq19 := z7.cell hq1 (fun h => h)
  obtain ⟨P1, p1n, p1c, rfl⟩ := (hall.1 (p1, key) (by simp)).sl
  obtain ⟨P2, p2n, p2c, rfl⟩ := (hall.1 (p2, key) (by simp)).sl
  obtain ⟨K1, k1n, k1c, rfl⟩ := (hall.1 (q1, val) (by simp)).sl
  obtain ⟨K2, k2n, k2c, rfl⟩ := (hall.1 (q2, val) (by simp)).sl
  have HCE := hide (And.intro hcy8 (And.intro hp19 (And.intro hq19 (And.intro hca2 (And.intro hcd2 (And.intro hp2 (And.intro hq2 hcy4)))))))
  have HALL := hide hall
  have HKC := hide (And.intro hkc hvc)
  have HO := hide (And.intro o1 (And.intro o2 (And.intro o3 o4)))
  have Z0 := hide z0
  have hW1 : W.heap.size ≤ w1.heap.size ∧ w1.heap.size ≤ w9.heap.size := ⟨n01, by omega⟩
  have HW1 := hide hW1
  clear hcy8 hp19 hq19 hca2 hcd2 hp2 hq2 hall hkc hvc o1 o2 o3 o4 z0 z1 z2 z3 z4 z5 z6 z7 z8 n01 n12 n23 n34 n45 n56 n67 n78 n8P nP9 l1 l2 l3 l4 l5 hW1 hp3 hps2 hps1 hcell2 hrow2 hO hR hR2 hX hY9 HX hc1 hc2 hc3 hc5 hc6 hc7 hc9 hcA hcP hK0 hs1 hs2 hs3 hu3 hr3 hk1 hv1 hv2 hk hv hp1 hq1
  have hkl : key.length ≤ 1000000000000 := by omega
  have hvl : val.length ≤ 1000000000000 := by omega
  have hyl : (recY (xr key val)).length ≤ 1000000000000 := by have := HYL.out; omega
  go_upto_region 12 with (first
    | (have z := hq11; go_at_call 17; refine (refKept ((HO.out.2.2.2.rd.c0 (ofq hq10)).c0 (ofq hq11)) ((HO.out.2.2.1.rd.c0 (ofq hq10)).c0 (ofq hq11)) hyl).mono ?_; rintro e w12 ⟨rfl, hq12⟩)
    | (have z := hq10; go_at_call 17; refine (refKept (HO.out.2.1.rd.c0 (ofq hq10)) (HKC.out.2.c0 (ofq hq10)) hvl).mono ?_; rintro e w11 ⟨rfl, hq11⟩)
    | (go_at_call 17; refine (refKept HO.out.1.rd HKC.out.1 hkl).mono ?_; rintro e w10 ⟨rfl, hq10⟩))
  have z12 := ((ofq hq10).trans0 (ofq hq11)).trans0 (ofq hq12)
  clear hq10 hq11 hq12 hkl hvl hyl hcy4
  have zd : Chg Non w9 w12.drew := z12.drew
  refine wp_region_T (Chg Non w12.drew) 99 (by kernel_rfl) ?_
  have HS := hide (Chg.refl Non w12.drew)
  refine AnyT.take (i := 0) (v := ?_) rfl (by kernel_rfl) (by kernel_rfl) (fun _ _ _ h => h) (by kernel_rfl) (by kernel_rfl) (Or.inl ⟨by rfl, ?_⟩) HS.out ?_
  rotate_left
  · (intro w9 h9; go_simp; try with_reducible rfl)
  try simp only [List.getElem_toArray, List.getElem_cons_succ, List.getElem_cons_zero, Act.put, List.setIfInBounds_toArray, List.set_cons_zero, List.set_cons_succ]
  refine AnyT.take (i := 1) (v := ?_) rfl (by kernel_rfl) (by kernel_rfl) (fun _ _ _ h => h) (by kernel_rfl) (by kernel_rfl) (Or.inl ⟨by rfl, ?_⟩) HS.out ?_
  rotate_left
  · (intro w9 h9; go_simp; try with_reducible rfl)
  try simp only [List.getElem_toArray, List.getElem_cons_succ, List.getElem_cons_zero, Act.put, List.setIfInBounds_toArray, List.set_cons_zero, List.set_cons_succ]
  refine AnyT.take (i := 2) (v := ?_) rfl (by kernel_rfl) (by kernel_rfl) (fun _ _ _ h => h) (by kernel_rfl) (by kernel_rfl) (Or.inl ⟨by rfl, ?_⟩) HS.out ?_
  rotate_left
  · (intro w9 h9; go_simp; try with_reducible rfl)
  try simp only [List.getElem_toArray, List.getElem_cons_succ, List.getElem_cons_zero, Act.put, List.setIfInBounds_toArray, List.set_cons_zero, List.set_cons_succ]
  refine AnyT.take (i := 3) (v := ?_) rfl (by kernel_rfl) (by kernel_rfl) (fun _ _ _ h => h) (by kernel_rfl) (by kernel_rfl) (Or.inl ⟨by rfl, ?_⟩) HS.out ?_
  rotate_left
  · (intro w9 h9; go_simp; try with_reducible rfl)
  try simp only [List.getElem_toArray, List.getElem_cons_succ, List.getElem_cons_zero, Act.put, List.setIfInBounds_toArray, List.set_cons_zero, List.set_cons_succ]
  refine AnyT.take (i := 4) (v := ?_) rfl (by kernel_rfl) (by kernel_rfl) (fun _ _ _ h => h) (by kernel_rfl) (by kernel_rfl) (Or.inl ⟨by rfl, ?_⟩) HS.out ?_
  rotate_left
  · (intro w9 h9; go_simp; try with_reducible rfl)
  try simp only [List.getElem_toArray, List.getElem_cons_succ, List.getElem_cons_zero, Act.put, List.setIfInBounds_toArray, List.set_cons_zero, List.set_cons_succ]
  refine AnyT.take (i := 5) (v := ?_) rfl (by kernel_rfl) (by kernel_rfl) (fun _ _ _ h => h) (by kernel_rfl) (by kernel_rfl) (Or.inl ⟨by rfl, ?_⟩) HS.out ?_
  rotate_left
  · (intro w9 h9; obtain ⟨m1, m2, m3, m4, m5, m6, m7, m8⟩ := HCE.out; have y1 := (zd.trans0 h9).cell m1 (fun h => h); have y2 := (zd.trans0 h9).cell m2 (fun h => h); have y3 := (zd.trans0 h9).cell m3 (fun h => h); have y4 := (zd.trans0 h9).cell m4 (fun h => h); have y5 := (zd.trans0 h9).cell m5 (fun h => h); have y6 := (zd.trans0 h9).cell m6 (fun h => h); have y7 := (zd.trans0 h9).cell m7 (fun h => h); have y8 := (zd.trans0 h9).cell m8 (fun h => h); clear m1 m2 m3 m4 m5 m6 m7 m8; go_simp; try with_reducible rfl)
  try simp only [List.getElem_toArray, List.getElem_cons_succ, List.getElem_cons_zero, Act.put, List.setIfInBounds_toArray, List.set_cons_zero, List.set_cons_succ]
  refine AnyT.take (i := 6) (v := ?_) rfl (by kernel_rfl) (by kernel_rfl) (fun _ _ _ h => h) (by kernel_rfl) (by kernel_rfl) (Or.inl ⟨by rfl, ?_⟩) HS.out ?_
  rotate_left
  · (intro w9 h9; go_simp; try with_reducible rfl)
  try simp only [List.getElem_toArray, List.getElem_cons_succ, List.getElem_cons_zero, Act.put, List.setIfInBounds_toArray, List.set_cons_zero, List.set_cons_succ]
  refine AnyT.take (i := 7) (v := ?_) rfl (by kernel_rfl) (by kernel_rfl) (fun _ _ _ h => h) (by kernel_rfl) (by kernel_rfl) (Or.inl ⟨by rfl, ?_⟩) HS.out ?_
  rotate_left
  · (intro w9 h9; go_simp; try with_reducible rfl)
  try simp only [List.getElem_toArray, List.getElem_cons_succ, List.getElem_cons_zero, Act.put, List.setIfInBounds_toArray, List.set_cons_zero, List.set_cons_succ]
  refine AnyT.take (i := 8) (v := ?_) rfl (by kernel_rfl) (by kernel_rfl) (fun _ _ _ h => h) (by kernel_rfl) (by kernel_rfl) (Or.inl ⟨by rfl, ?_⟩) HS.out ?_
  rotate_left
  · (intro w9 h9; obtain ⟨m1, m2, m3, m4, m5, m6, m7, m8⟩ := HCE.out; have y1 := (zd.trans0 h9).cell m1 (fun h => h); have y2 := (zd.trans0 h9).cell m2 (fun h => h); have y3 := (zd.trans0 h9).cell m3 (fun h => h); have y4 := (zd.trans0 h9).cell m4 (fun h => h); have y5 := (zd.trans0 h9).cell m5 (fun h => h); have y6 := (zd.trans0 h9).cell m6 (fun h => h); have y7 := (zd.trans0 h9).cell m7 (fun h => h); have y8 := (zd.trans0 h9).cell m8 (fun h => h); clear m1 m2 m3 m4 m5 m6 m7 m8; go_simp; try with_reducible rfl)
  try simp only [List.getElem_toArray, List.getElem_cons_succ, List.getElem_cons_zero, Act.put, List.setIfInBounds_toArray, List.set_cons_zero, List.set_cons_succ]
  refine AnyT.take (i := 9) (v := ?_) rfl (by kernel_rfl) (by kernel_rfl) (fun _ _ _ h => h) (by kernel_rfl) (by kernel_rfl) (Or.inl ⟨by rfl, ?_⟩) HS.out ?_
  rotate_left
  · (intro w9 h9; go_simp; try with_reducible rfl)
  try simp only [List.getElem_toArray, List.getElem_cons_succ, List.getElem_cons_zero, Act.put, List.setIfInBounds_toArray, List.set_cons_zero, List.set_cons_succ]
  refine AnyT.take (i := 10) (v := ?_) rfl (by kernel_rfl) (by kernel_rfl) (fun _ _ _ h => h) (by kernel_rfl) (by kernel_rfl) (Or.inl ⟨by rfl, ?_⟩) HS.out ?_
  rotate_left
  · (intro w9 h9; obtain ⟨m1, m2, m3, m4, m5, m6, m7, m8⟩ := HCE.out; have y1 := (zd.trans0 h9).cell m1 (fun h => h); have y2 := (zd.trans0 h9).cell m2 (fun h => h); have y3 := (zd.trans0 h9).cell m3 (fun h => h); have y4 := (zd.trans0 h9).cell m4 (fun h => h); have y5 := (zd.trans0 h9).cell m5 (fun h => h); have y6 := (zd.trans0 h9).cell m6 (fun h => h); have y7 := (zd.trans0 h9).cell m7 (fun h => h); have y8 := (zd.trans0 h9).cell m8 (fun h => h); clear m1 m2 m3 m4 m5 m6 m7 m8; go_simp; try with_reducible rfl)
  try simp only [List.getElem_toArray, List.getElem_cons_succ, List.getElem_cons_zero, Act.put, List.setIfInBounds_toArray, List.set_cons_zero, List.set_cons_succ]
  refine AnyT.take (i := 11) (v := ?_) rfl (by kernel_rfl) (by kernel_rfl) (fun _ _ _ h => h) (by kernel_rfl) (by kernel_rfl) (Or.inl ⟨by rfl, ?_⟩) HS.out ?_
  rotate_left
  · (intro w9 h9; go_simp; try with_reducible rfl)
  try simp only [List.getElem_toArray, List.getElem_cons_succ, List.getElem_cons_zero, Act.put, List.setIfInBounds_toArray, List.set_cons_zero, List.set_cons_succ]
  refine AnyT.take (i := 12) (v := ?_) rfl (by kernel_rfl) (by kernel_rfl) (fun _ _ _ h => h) (by kernel_rfl) (by kernel_rfl) (Or.inl ⟨by rfl, ?_⟩) HS.out ?_
  rotate_left
  · (intro w9 h9; go_simp; try with_reducible rfl)
  try simp only [List.getElem_toArray, List.getElem_cons_succ, List.getElem_cons_zero, Act.put, List.setIfInBounds_toArray, List.set_cons_zero, List.set_cons_succ]
  refine AnyT.take (i := 13) (v := ?_) rfl (by kernel_rfl) (by kernel_rfl) (fun _ _ _ h => h) (by kernel_rfl) (by kernel_rfl) (Or.inl ⟨by rfl, ?_⟩) HS.out ?_
  rotate_left
  · (intro w9 h9; obtain ⟨m1, m2, m3, m4, m5, m6, m7, m8⟩ := HCE.out; have y1 := (zd.trans0 h9).cell m1 (fun h => h); have y2 := (zd.trans0 h9).cell m2 (fun h => h); have y3 := (zd.trans0 h9).cell m3 (fun h => h); have y4 := (zd.trans0 h9).cell m4 (fun h => h); have y5 := (zd.trans0 h9).cell m5 (fun h => h); have y6 := (zd.trans0 h9).cell m6 (fun h => h); have y7 := (zd.trans0 h9).cell m7 (fun h => h); have y8 := (zd.trans0 h9).cell m8 (fun h => h); clear m1 m2 m3 m4 m5 m6 m7 m8; go_simp; try with_reducible rfl)
  try simp only [List.getElem_toArray, List.getElem_cons_succ, List.getElem_cons_zero, Act.put, List.setIfInBounds_toArray, List.set_cons_zero, List.set_cons_succ]
  refine AnyT.take (i := 14) (v := ?_) rfl (by kernel_rfl) (by kernel_rfl) (fun _ _ _ h => h) (by kernel_rfl) (by kernel_rfl) (Or.inl ⟨by rfl, ?_⟩) HS.out ?_
  rotate_left
  · (intro w9 h9; go_simp; try with_reducible rfl)
  try simp only [List.getElem_toArray, List.getElem_cons_succ, List.getElem_cons_zero, Act.put, List.setIfInBounds_toArray, List.set_cons_zero, List.set_cons_succ]
  refine AnyT.take (i := 15) (v := ?_) rfl (by kernel_rfl) (by kernel_rfl) (fun _ _ _ h => h) (by kernel_rfl) (by kernel_rfl) (Or.inl ⟨by rfl, ?_⟩) HS.out ?_
  rotate_left
  · (intro w9 h9; obtain ⟨m1, m2, m3, m4, m5, m6, m7, m8⟩ := HCE.out; have y1 := (zd.trans0 h9).cell m1 (fun h => h); have y2 := (zd.trans0 h9).cell m2 (fun h => h); have y3 := (zd.trans0 h9).cell m3 (fun h => h); have y4 := (zd.trans0 h9).cell m4 (fun h => h); have y5 := (zd.trans0 h9).cell m5 (fun h => h); have y6 := (zd.trans0 h9).cell m6 (fun h => h); have y7 := (zd.trans0 h9).cell m7 (fun h => h); have y8 := (zd.trans0 h9).cell m8 (fun h => h); clear m1 m2 m3 m4 m5 m6 m7 m8; go_simp; try with_reducible rfl)
  try simp only [List.getElem_toArray, List.getElem_cons_succ, List.getElem_cons_zero, Act.put, List.setIfInBounds_toArray, List.set_cons_zero, List.set_cons_succ]
  refine AnyT.take (i := 16) (v := ?_) rfl (by kernel_rfl) (by kernel_rfl) (fun _ _ _ h => h) (by kernel_rfl) (by kernel_rfl) (Or.inl ⟨by rfl, ?_⟩) HS.out ?_
  rotate_left
  · (intro w9 h9; go_simp; try with_reducible rfl)
  try simp only [List.getElem_toArray, List.getElem_cons_succ, List.getElem_cons_zero, Act.put, List.setIfInBounds_toArray, List.set_cons_zero, List.set_cons_succ]
  refine AnyT.take (i := 17) (v := ?_) rfl (by kernel_rfl) (by kernel_rfl) (fun _ _ _ h => h) (by kernel_rfl) (by kernel_rfl) (Or.inl ⟨by rfl, ?_⟩) HS.out ?_
  rotate_left
  · (intro w9 h9; go_simp; try with_reducible rfl)
  try simp only [List.getElem_toArray, List.getElem_cons_succ, List.getElem_cons_zero, Act.put, List.setIfInBounds_toArray, List.set_cons_zero, List.set_cons_succ]
  refine AnyT.take (i := 18) (v := ?_) rfl (by kernel_rfl) (by kernel_rfl) (fun _ _ _ h => h) (by kernel_rfl) (by kernel_rfl) (Or.inl ⟨by rfl, ?_⟩) HS.out ?_
  rotate_left
  · (intro w9 h9; go_simp; try with_reducible rfl)
  try simp only [List.getElem_toArray, List.getElem_cons_succ, List.getElem_cons_zero, Act.put, List.setIfInBounds_toArray, List.set_cons_zero, List.set_cons_succ]
  refine AnyT.take (i := 19) (v := ?_) rfl (by kernel_rfl) (by kernel_rfl) (fun _ _ _ h => h) (by kernel_rfl) (by kernel_rfl) (Or.inl ⟨by rfl, ?_⟩) HS.out ?_
  rotate_left
  · (intro w9 h9; go_simp; try with_reducible rfl)
  try simp only [List.getElem_toArray, List.getElem_cons_succ, List.getElem_cons_zero, Act.put, List.setIfInBounds_toArray, List.set_cons_zero, List.set_cons_succ]
  refine AnyT.take (i := 20) (v := ?_) rfl (by kernel_rfl) (by kernel_rfl) (fun _ _ _ h => h) (by kernel_rfl) (by kernel_rfl) (Or.inl ⟨by rfl, ?_⟩) HS.out ?_
  rotate_left
  · (intro w9 h9; obtain ⟨m1, m2, m3, m4, m5, m6, m7, m8⟩ := HCE.out; have y1 := (zd.trans0 h9).cell m1 (fun h => h); have y2 := (zd.trans0 h9).cell m2 (fun h => h); have y3 := (zd.trans0 h9).cell m3 (fun h => h); have y4 := (zd.trans0 h9).cell m4 (fun h => h); have y5 := (zd.trans0 h9).cell m5 (fun h => h); have y6 := (zd.trans0 h9).cell m6 (fun h => h); have y7 := (zd.trans0 h9).cell m7 (fun h => h); have y8 := (zd.trans0 h9).cell m8 (fun h => h); clear m1 m2 m3 m4 m5 m6 m7 m8; go_simp; try with_reducible rfl)
  try simp only [List.getElem_toArray, List.getElem_cons_succ, List.getElem_cons_zero, Act.put, List.setIfInBounds_toArray, List.set_cons_zero, List.set_cons_succ]
  refine AnyT.take (i := 21) (v := ?_) rfl (by kernel_rfl) (by kernel_rfl) (fun _ _ _ h => h) (by kernel_rfl) (by kernel_rfl) (Or.inl ⟨by rfl, ?_⟩) HS.out ?_
  rotate_left
  · (intro w9 h9; go_simp; try with_reducible rfl)
  try simp only [List.getElem_toArray, List.getElem_cons_succ, List.getElem_cons_zero, Act.put, List.setIfInBounds_toArray, List.set_cons_zero, List.set_cons_succ]
  refine AnyT.take (i := 22) (v := ?_) rfl (by kernel_rfl) (by kernel_rfl) (fun _ _ _ h => h) (by kernel_rfl) (by kernel_rfl) (Or.inl ⟨by rfl, ?_⟩) HS.out ?_
  rotate_left
  · (intro w9 h9; go_simp; try with_reducible rfl)
  try simp only [List.getElem_toArray, List.getElem_cons_succ, List.getElem_cons_zero, Act.put, List.setIfInBounds_toArray, List.set_cons_zero, List.set_cons_succ]
  refine AnyT.take (i := 23) (v := ?_) rfl (by kernel_rfl) (by kernel_rfl) (fun _ _ _ h => h) (by kernel_rfl) (by kernel_rfl) (Or.inl ⟨by rfl, ?_⟩) HS.out ?_
  rotate_left
  · (intro w9 h9; obtain ⟨m1, m2, m3, m4, m5, m6, m7, m8⟩ := HCE.out; have y1 := (zd.trans0 h9).cell m1 (fun h => h); have y2 := (zd.trans0 h9).cell m2 (fun h => h); have y3 := (zd.trans0 h9).cell m3 (fun h => h); have y4 := (zd.trans0 h9).cell m4 (fun h => h); have y5 := (zd.trans0 h9).cell m5 (fun h => h); have y6 := (zd.trans0 h9).cell m6 (fun h => h); have y7 := (zd.trans0 h9).cell m7 (fun h => h); have y8 := (zd.trans0 h9).cell m8 (fun h => h); clear m1 m2 m3 m4 m5 m6 m7 m8; go_simp; try with_reducible rfl)
  try simp only [List.getElem_toArray, List.getElem_cons_succ, List.getElem_cons_zero, Act.put, List.setIfInBounds_toArray, List.set_cons_zero, List.set_cons_succ]
  refine AnyT.take (i := 24) (v := ?_) rfl (by kernel_rfl) (by kernel_rfl) (fun _ _ _ h => h) (by kernel_rfl) (by kernel_rfl) (Or.inl ⟨by rfl, ?_⟩) HS.out ?_
  rotate_left
  · (intro w9 h9; go_simp; try with_reducible rfl)
  try simp only [List.getElem_toArray, List.getElem_cons_succ, List.getElem_cons_zero, Act.put, List.setIfInBounds_toArray, List.set_cons_zero, List.set_cons_succ]
  refine AnyT.take (i := 25) (v := ?_) rfl (by kernel_rfl) (by kernel_rfl) (fun _ _ _ h => h) (by kernel_rfl) (by kernel_rfl) (Or.inl ⟨by rfl, ?_⟩) HS.out ?_
  rotate_left
  · (intro w9 h9; go_simp; try with_reducible rfl)
  try simp only [List.getElem_toArray, List.getElem_cons_succ, List.getElem_cons_zero, Act.put, List.setIfInBounds_toArray, List.set_cons_zero, List.set_cons_succ]
  refine AnyT.take (i := 26) (v := ?_) rfl (by kernel_rfl) (by kernel_rfl) (fun _ _ _ h => h) (by kernel_rfl) (by kernel_rfl) (Or.inl ⟨by rfl, ?_⟩) HS.out ?_
  rotate_left
  · (intro w9 h9; go_simp; try with_reducible rfl)
  try simp only [List.getElem_toArray, List.getElem_cons_succ, List.getElem_cons_zero, Act.put, List.setIfInBounds_toArray, List.set_cons_zero, List.set_cons_succ]
  refine AnyT.take (i := 27) (v := ?_) rfl (by kernel_rfl) (by kernel_rfl) (fun _ _ _ h => h) (by kernel_rfl) (by kernel_rfl) (Or.inl ⟨by rfl, ?_⟩) HS.out ?_
  rotate_left
  · (intro w9 h9; go_simp; try with_reducible rfl)
  try simp only [List.getElem_toArray, List.getElem_cons_succ, List.getElem_cons_zero, Act.put, List.setIfInBounds_toArray, List.set_cons_zero, List.set_cons_succ]
  refine AnyT.take (i := 28) (v := ?_) rfl (by kernel_rfl) (by kernel_rfl) (fun _ _ _ h => h) (by kernel_rfl) (by kernel_rfl) (Or.inl ⟨by rfl, ?_⟩) HS.out ?_
  rotate_left
  · (intro w9 h9; obtain ⟨m1, m2, m3, m4, m5, m6, m7, m8⟩ := HCE.out; have y1 := (zd.trans0 h9).cell m1 (fun h => h); have y2 := (zd.trans0 h9).cell m2 (fun h => h); have y3 := (zd.trans0 h9).cell m3 (fun h => h); have y4 := (zd.trans0 h9).cell m4 (fun h => h); have y5 := (zd.trans0 h9).cell m5 (fun h => h); have y6 := (zd.trans0 h9).cell m6 (fun h => h); have y7 := (zd.trans0 h9).cell m7 (fun h => h); have y8 := (zd.trans0 h9).cell m8 (fun h => h); clear m1 m2 m3 m4 m5 m6 m7 m8; go_simp; try with_reducible rfl)
  try simp only [List.getElem_toArray, List.getElem_cons_succ, List.getElem_cons_zero, Act.put, List.setIfInBounds_toArray, List.set_cons_zero, List.set_cons_succ]
  refine AnyT.take (i := 29) (v := ?_) rfl (by kernel_rfl) (by kernel_rfl) (fun _ _ _ h => h) (by kernel_rfl) (by kernel_rfl) (Or.inl ⟨by rfl, ?_⟩) HS.out ?_
  rotate_left
  · (intro w9 h9; go_simp; try with_reducible rfl)
  try simp only [List.getElem_toArray, List.getElem_cons_succ, List.getElem_cons_zero, Act.put, List.setIfInBounds_toArray, List.set_cons_zero, List.set_cons_succ]
  refine AnyT.take (i := 30) (v := ?_) rfl (by kernel_rfl) (by kernel_rfl) (fun _ _ _ h => h) (by kernel_rfl) (by kernel_rfl) (Or.inl ⟨by rfl, ?_⟩) HS.out ?_
  rotate_left
  · (intro w9 h9; go_simp; try with_reducible rfl)
  try simp only [List.getElem_toArray, List.getElem_cons_succ, List.getElem_cons_zero, Act.put, List.setIfInBounds_toArray, List.set_cons_zero, List.set_cons_succ]
  refine AnyT.take (i := 31) (v := ?_) rfl (by kernel_rfl) (by kernel_rfl) (fun _ _ _ h => h) (by kernel_rfl) (by kernel_rfl) (Or.inl ⟨by rfl, ?_⟩) HS.out ?_
  rotate_left
  · (intro w9 h9; obtain ⟨m1, m2, m3, m4, m5, m6, m7, m8⟩ := HCE.out; have y1 := (zd.trans0 h9).cell m1 (fun h => h); have y2 := (zd.trans0 h9).cell m2 (fun h => h); have y3 := (zd.trans0 h9).cell m3 (fun h => h); have y4 := (zd.trans0 h9).cell m4 (fun h => h); have y5 := (zd.trans0 h9).cell m5 (fun h => h); have y6 := (zd.trans0 h9).cell m6 (fun h => h); have y7 := (zd.trans0 h9).cell m7 (fun h => h); have y8 := (zd.trans0 h9).cell m8 (fun h => h); clear m1 m2 m3 m4 m5 m6 m7 m8; go_simp; try with_reducible rfl)
  try simp only [List.getElem_toArray, List.getElem_cons_succ, List.getElem_cons_zero, Act.put, List.setIfInBounds_toArray, List.set_cons_zero, List.set_cons_succ]
  refine AnyT.take (i := 32) (v := ?_) rfl (by kernel_rfl) (by kernel_rfl) (fun _ _ _ h => h) (by kernel_rfl) (by kernel_rfl) (Or.inl ⟨by rfl, ?_⟩) HS.out ?_
  rotate_left
  · (intro w9 h9; go_simp; try with_reducible rfl)
  try simp only [List.getElem_toArray, List.getElem_cons_succ, List.getElem_cons_zero, Act.put, List.setIfInBounds_toArray, List.set_cons_zero, List.set_cons_succ]
  refine AnyT.take (i := 33) (v := ?_) rfl (by kernel_rfl) (by kernel_rfl) (fun _ _ _ h => h) (by kernel_rfl) (by kernel_rfl) (Or.inl ⟨by rfl, ?_⟩) HS.out ?_
  rotate_left
  · (intro w9 h9; go_simp; try with_reducible rfl)
  try simp only [List.getElem_toArray, List.getElem_cons_succ, List.getElem_cons_zero, Act.put, List.setIfInBounds_toArray, List.set_cons_zero, List.set_cons_succ]
  refine AnyT.take (i := 34) (v := ?_) rfl (by kernel_rfl) (by kernel_rfl) (fun _ _ _ h => h) (by kernel_rfl) (by kernel_rfl) (Or.inl ⟨by rfl, ?_⟩) HS.out ?_
  rotate_left
  · (intro w9 h9; go_simp; try with_reducible rfl)
  try simp only [List.getElem_toArray, List.getElem_cons_succ, List.getElem_cons_zero, Act.put, List.setIfInBounds_toArray, List.set_cons_zero, List.set_cons_succ]
  refine AnyT.take (i := 35) (v := ?_) rfl (by kernel_rfl) (by kernel_rfl) (fun _ _ _ h => h) (by kernel_rfl) (by kernel_rfl) (Or.inl ⟨by rfl, ?_⟩) HS.out ?_
  rotate_left
  · (intro w9 h9; go_simp; try with_reducible rfl)
  try simp only [List.getElem_toArray, List.getElem_cons_succ, List.getElem_cons_zero, Act.put, List.setIfInBounds_toArray, List.set_cons_zero, List.set_cons_succ]
  refine AnyT.take (i := 36) (v := ?_) rfl (by kernel_rfl) (by kernel_rfl) (fun _ _ _ h => h) (by kernel_rfl) (by kernel_rfl) (Or.inl ⟨by rfl, ?_⟩) HS.out ?_
  rotate_left
  · (intro w9 h9; obtain ⟨m1, m2, m3, m4, m5, m6, m7, m8⟩ := HCE.out; have y1 := (zd.trans0 h9).cell m1 (fun h => h); have y2 := (zd.trans0 h9).cell m2 (fun h => h); have y3 := (zd.trans0 h9).cell m3 (fun h => h); have y4 := (zd.trans0 h9).cell m4 (fun h => h); have y5 := (zd.trans0 h9).cell m5 (fun h => h); have y6 := (zd.trans0 h9).cell m6 (fun h => h); have y7 := (zd.trans0 h9).cell m7 (fun h => h); have y8 := (zd.trans0 h9).cell m8 (fun h => h); clear m1 m2 m3 m4 m5 m6 m7 m8; go_simp; try with_reducible rfl)
  try simp only [List.getElem_toArray, List.getElem_cons_succ, List.getElem_cons_zero, Act.put, List.setIfInBounds_toArray, List.set_cons_zero, List.set_cons_succ]
  obtain ⟨ls, hls⟩ : ∃ ls : List (Value × List UInt8), ls = [(.slice F1 f1n f1c, spareL key), (.slice F2 f2n f2c, spareL val), (.slice U3 u3n u3c, recY (xr key val)), (.slice F3 f3n f3c, spareL (recY (xr key val))), (.slice P1 p1n p1c, key), (.slice K1 k1n k1c, val), (.slice C4 r4 t4, val), (.slice P2 p2n p2c, key), (.slice K2 k2n k2c, val), (.slice D4 s4 i4, val)] := ⟨_, rfl⟩
  have hch : OwnCh w12.drew w1.heap.size ls := by rw [hls]; exact OwnPs.ch (HALL.out.c0 zd)
  obtain ⟨hrc, _⟩ := RowsC.lit (n := 10) (cs := #[.slice F1 f1n f1c, .slice F2 f2n f2c, .slice U3 u3n u3c, .slice F3 f3n f3c, .slice P1 p1n p1c, .slice K1 k1n k1c, .slice C4 r4 t4, .slice P2 p2n p2c, .slice K2 k2n k2c, .slice D4 s4 i4]) hch (by have := HW1.out.2; have := zd.size; omega) (by rw [hls]; rfl) (by simp [maxLen]) (by rw [hls]; rfl)
  have hcL := zd.alloc (.cells #[.slice F1 f1n f1c, .slice F2 f2n f2c, .slice U3 u3n u3c, .slice F3 f3n f3c, .slice P1 p1n p1c, .slice K1 k1n k1c, .slice C4 r4 t4, .slice P2 p2n p2c, .slice K2 k2n k2c, .slice D4 s4 i4] 28)
  have hcM := (Chg.refl Non w12.drew).alloc (.cells #[.slice F1 f1n f1c, .slice F2 f2n f2c, .slice U3 u3n u3c, .slice F3 f3n f3c, .slice P1 p1n p1c, .slice K1 k1n k1c, .slice C4 r4 t4, .slice P2 p2n p2c, .slice K2 k2n k2c, .slice D4 s4 i4] 28)
  have hrc : RowsC (w12.alloc (.cells #[.slice F1 f1n f1c, .slice F2 f2n f2c, .slice U3 u3n u3c, .slice F3 f3n f3c, .slice P1 p1n p1c, .slice K1 k1n k1c, .slice C4 r4 t4, .slice P2 p2n p2c, .slice K2 k2n k2c, .slice D4 s4 i4] 28)).drew _ _ _ _ := hrc
  have hcL : Chg Non w9 (w12.alloc (.cells #[.slice F1 f1n f1c, .slice F2 f2n f2c, .slice U3 u3n u3c, .slice F3 f3n f3c, .slice P1 p1n p1c, .slice K1 k1n k1c, .slice C4 r4 t4, .slice P2 p2n p2c, .slice K2 k2n k2c, .slice D4 s4 i4] 28)).drew := hcL
  have hcM : Chg Non w12.drew (w12.alloc (.cells #[.slice F1 f1n f1c, .slice F2 f2n f2c, .slice U3 u3n u3c, .slice F3 f3n f3c, .slice P1 p1n p1c, .slice K1 k1n k1c, .slice C4 r4 t4, .slice P2 p2n p2c, .slice K2 k2n k2c, .slice D4 s4 i4] 28)).drew := hcM
  have HLS := hide hls
  clear hls hch
  refine AnyT.one (i := 37) (by kernel_rfl) rfl (fun K hK => ?_)
  go_simp
  generalize World.drew (w12.alloc _) = w13 at hrc hcL hcM ⊢
  refine hK.out _ _ (fun _ => HS.out.trans0 hcM) ?_
  have HS' := hide (HS.out.trans0 hcM)
  clear HS
  have HS := HS'
  clear HS' hK K
  try simp only [List.getElem_toArray, List.getElem_cons_succ, List.getElem_cons_zero, Act.put, List.setIfInBounds_toArray, List.set_cons_zero, List.set_cons_succ]
  refine AnyT.take (i := 38) (v := ?_) rfl (by kernel_rfl) (by kernel_rfl) (fun _ _ _ h => h) (by kernel_rfl) (by kernel_rfl) (Or.inl ⟨by rfl, ?_⟩) HS.out ?_
  rotate_left
  · (intro w9 h9; go_simp; try with_reducible rfl)
  try simp only [List.getElem_toArray, List.getElem_cons_succ, List.getElem_cons_zero, Act.put, List.setIfInBounds_toArray, List.set_cons_zero, List.set_cons_succ]
  refine AnyT.nil (by kernel_rfl) ?_
  have HRC := hide hrc
  obtain ⟨m1, m2, m3, m4, m5, m6, m7, m8⟩ := HCE.out
  have y1 := hcL.cell m1 (fun h => h)
  have y4 := hcL.cell m4 (fun h => h)
  have y6 := hcL.cell m6 (fun h => h)
  have hk13 := HKC.out.1.c0 hcL
  have hv13 := HKC.out.2.c0 hcL
  have hr13 := (HALL.out.c0 hcL).1 (.slice C4 r4 t4, val) (by simp)
  have hp13 := (HALL.out.c0 hcL).1 (.slice P2 p2n p2c, key) (by simp)
  have ht13 := Z0.out.trans0 hcL
  have hll := ls_len HLS.out HYL.out HB.out
  have hln : (ls.map (·.1)).length ≤ 1000 := by rw [HLS.out]; simp
  have hw13 : w1.heap.size ≤ w13.heap.size := by have := HW1.out.2; have := hcL.size; omega
  clear m1 m2 m3 m4 m5 m6 m7 m8 hrc hcL hcM HS
  go_wp2_with (first
    | (go_at_call 18; refine (refApartC (HRC.out.c0 ((ofq hqa).trans0 (ofq hqb))) hln hll (by have h1 := (ofq hqa).size; have h2 := (ofq hqb).size; omega)).mono ?_; rintro e w16 ⟨rfl, hc16⟩)
    | (have z := hqa; go_at_call 10; refine (refEqual_true ((hp13.rd).c0 (ofq hqa)) (hk13.c0 (ofq hqa))).mono ?_; rintro e w15 ⟨rfl, hqb⟩)
    | (go_at_call 10; refine (refEqual_true hr13.rd hv13).mono ?_; rintro e w14 ⟨rfl, hqa⟩; have y4 := (ofq hqa).cell y4 (fun h => h); have y6 := (ofq hqa).cell y6 (fun h => h)))
  go_ret
  refine ⟨rfl, ((ht13.trans0 (ofq hqa)).trans0 (ofq hqb)).trans hc16 fun k hk hV => ?_⟩
  obtain ⟨j, x, hx, hkb⟩ := hV
  have h1 := (HRC.out.lt hx k hkb).1
  have h2 := HW1.out.1
  omega

set_option maxRecDepth 100000 in
theorem contract (H : Type) (enc : TypeId × Value → H) (W : World) (base : Nat) (args : Array Value) (ds gs : List (DataW H)) (before : List MemPlace)
    (hval : ∀ (j : Nat) t v, Try.f4.params[j]? = some t → args[j]? = some v → Value.okWide Try.prog W .any base t v)
    (hW : DataW.Whole enc Try.prog Try.f4.params.toList Rows.recKeepsSpec.vars false W args.toList ds gs before) (hk : Rows.uptoSmall H (ds ++ gs) = true) :
    Calls Try.prog 4 args W fun e W' => ∃ v, e = .returned v ∧ Rows.recKeepsSpec.post enc Try.prog Try.f4 false true false false W args v W' := by
  have hW' := hW
  obtain ⟨p, q, hA0, hV, rfl, hfz, hnd⟩ := hW
  have hA : DataW.TrodAll enc Try.prog W 0 (fun _ => true) true Try.f4.params.toList args.toList ds p := hA0
  rw [Try.params4] at hA hval
  obtain ⟨v0, vs0, d0, ds0, p0, q0, hargs, rfl, rfl, h0, r0⟩ := trodAll_cons hA
  obtain ⟨v1, vs1, d1, ds1, p1, q1, rfl, rfl, rfl, h1, r1⟩ := trodAll_cons r0
  obtain ⟨rfl, rfl, rfl⟩ := trodAll_nil r1
  obtain rfl : args = #[v0, v1] := by cases args; simp_all
  obtain ⟨rfl, rfl⟩ := trodVars_none hV
  have k0 := h0
  have lt0 : ∀ x ∈ p0, x.block < W.heap.size := by obtain ⟨m, hm⟩ := k0; exact DataW.trod_lt m _ _ _ hm
  obtain ⟨l0, w0, z0⟩ := openB (hval 0 28 v0 rfl rfl) h0
  have k1 := h1
  have lt1 : ∀ x ∈ p1, x.block < W.heap.size := by obtain ⟨m, hm⟩ := k1; exact DataW.trod_lt m _ _ _ hm
  obtain ⟨l1, w1, z1⟩ := openB (hval 1 28 v1 rfl rfl) h1
  have hb := of_decide_eq_true hk
  simp only [List.append_nil, Rows.uptoBulkAll] at hb
  have z01 := z0.1
  have z11 := z1.1
  refine (walk w0 w1 (by omega)).mono fun e W' ⟨he, bel0⟩ => ?_
  have bel := bel0.below
  subst he
  exact ⟨_, rfl, _, _, _, [], _, [], hW', trodAll_mk1 (shut_bool Try.underlying4 _), (trodAll_cons_mk (Below.trod laidOut (by kernel_rfl) (of_decide_eq_true (by kernel_rfl)) k0 bel lt0) (trodAll_cons_mk (Below.trod laidOut (by kernel_rfl) (of_decide_eq_true (by kernel_rfl)) k1 bel lt1) trodAll_mk0)), rfl, bel.frame _, fun h => by cases h⟩

set_option maxRecDepth 100000 in
theorem lifted (os : Os) (started : os.Started) (H : Type) (enc : TypeId × Value → H) (F : Stop.Interp) :
    ReturnsInHanded {} Try.checked os 4 .any ((Rows.OpenSpec.upto Rows.recKeepsSpec).pre6 enc Try.prog Try.f4 Rows.recKeepsUptoRow.domain false) (((Rows.OpenSpec.upto Rows.recKeepsSpec).at F).post enc Try.prog Try.f4 false true false false) := by
  refine returnsInHanded_of_cond (C := Try.checked) (s := Rows.OpenSpec.upto Rows.recKeepsSpec) (k := Rows.uptoSmall) rfl own started (by kernel_rfl) Try.func4
    (OpenSpec.witness (enc := enc) (C := Try.checked) (s := Rows.OpenSpec.upto Rows.recKeepsSpec) (k := Rows.uptoSmall) rfl false ⟨#[], #[.slice none 0 0, .slice none 0 0], []⟩ 8 (by kernel_rfl) (by kernel_rfl) (by kernel_rfl)
      (x := ([.nil, .nil], [], [])) (by kernel_rfl) rfl (by kernel_rfl)) ?_
  intro W base args ds gs before hval hW _ hk _
  exact contract H enc W base args ds gs before hval hW hk

theorem over : Rows.recKeepsUptoRow.holds Try.pinned (Rows.OpenSpec.upto Rows.recKeepsSpec) :=
  OpenClaim.holds_of_cond 4 Try.f4 rfl rfl rfl rfl rfl rfl rfl ⟨rfl, rfl, rfl, rfl, rfl⟩ rfl rfl rfl rfl rfl (by kernel_rfl) Try.func4 (by kernel_rfl)
    (of_decide_eq_true (by kernel_rfl)) (by unfold Func.isWrapper; first | (rw [if_pos (by decide +kernel)]; kernel_rfl) | (rw [if_neg (by decide +kernel)]; exact ⟨rfl, rfl⟩))
    (fun os started H enc _ F => lifted os started H enc F)

theorem proved : Rows.RecKeepsUptoSaid := over
end Go.Proofs.Ytnedinbgibjjoaa.recKeeps
