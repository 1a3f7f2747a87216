/- The walk of leaf.Decode, of an inner node's page. -/
import Derived.Test.YtliimeoblffigaaGreatInDG
import Derived.Test.YtliimeoblffigaaGreatLfF
import Derived.Deep.CutRange
open List renaming getElem_toArray → lz1, getElem_cons_succ → lz2, getElem_cons_zero → lz3, setIfInBounds_toArray → lz4, set_cons_zero → lz5, set_cons_succ → lz6
set_option linter.unusedVariables false
set_option linter.unusedSimpArgs false
set_option maxRecDepth 100000
namespace Go.Proofs.YtliimeoblffigaaGreat
open Go.RowKit
set_option linter.unusedVariables false
set_option linter.unusedSimpArgs false

theorem oper_I {w : World} {o : Oper} {a : Act} {K : Act → World → Prop} {Q : Exit → Act → World → Prop} (s x : Operand)
  (ho : o.op = .call { callee := .builtin .append, args := #[s, x], argTypes := #[123, 123] })
  {base : Nat} {v : Value} {l : List Int} (hown : OwnI w base v l) (hv : a.eval s = v)
  {n : Int} {g : Nat} (hg : Blk w g 3 #[.int .i64 n]) (hy : a.eval x = .slice (some ⟨g, 0, none⟩) 1 1)
  (hb : l.length + 1 ≤ 1000000000000) (hbase : base ≤ w.heap.size)
  (h : ∀ v' w', OwnI w' base v' (l ++ [n]) → w.grownBy w' v.ownBlock → (v'.ownBlock = v.ownBlock ∨ v'.ownBlock = some w.heap.size) → K (a.put o.dst v') w') : Oper.wp Tryz.prog o a w K Q := by
 obtain ⟨i, hi, hz, h1, h2⟩ := info_parts info_int
 have hr : RdV w (fun _ => True) 1 (.slice (some ⟨g, 0, none⟩) 1 1) 1 [.int .i64 n] := ⟨rfl, _, 1, rfl, Nat.le_refl _, by simp [maxLen], fun _ => ⟨_, rfl, trivial, fun j y hyj => by
  rw [add_none, hg.cell]
  match j, hyj with
  | 0, hyj => simpa using hyj
  | j + 1, hyj => simp at hyj⟩⟩
 have h1c : ∀ y ∈ [Value.int .i64 n], y.oneCell' = true := fun y hy => by simp at hy; subst hy; rfl
 subst hv
 rw [← hy] at hr
 refine wp_append_rd w s x _ ho base 3 i _ 1 8 Tryz.underlying123 hi hz h1 h2 rfl (by omega) _ _ hown _ _ _ hr h1c (by simp only [maxLen]; omega) (by omega) hbase ?_
 intro v' w' hown' hgr _ hat
 refine h v' w' ?_ hgr hat
 unfold OwnI
 rw [List.length_append]
 simpa [ivs] using hown'
theorem ownI_one (w : World) (n : Int) : OwnI (w.alloc (.cells #[.int .i64 n] 3)) w.heap.size (.slice (some ⟨w.heap.size, 0, none⟩) 1 1) [n] :=
 World.ownsRow_lit (size := 1) w #[.int .i64 n] 1 (Nat.le_refl _) (by simp [maxLen]) rfl
theorem grown_at {w w' : World} {v v' : Value} (hg : w.grownBy w' v.ownBlock) (hat : v'.ownBlock = v.ownBlock ∨ v'.ownBlock = some w.heap.size) : Chg (fun k => v.ownBlock = some k) w w' ∧ (v'.ownBlock = v.ownBlock ∨ ∃ k, v'.ownBlock = some k ∧ w.heap.size ≤ k) :=
 ⟨(Chg.of_grown hg).mono fun b _ e => e.symm, hat.elim .inl fun h => .inr ⟨_, h, Nat.le_refl _⟩⟩
set_option maxHeartbeats 8000000 in
theorem inDecode {w : World} {F : Nat → Prop} {pv : Value} {ks : List (List UInt8)} {kd : List Nat} (hp0 : RdB w F pv (pageIn ks kd)) (hn : kd.length = ks.length + 1) (hz : ∀ x ∈ kd, x ≤ 65535) (hu : UpK ks) (h64 : ∀ x ∈ ks, x.length ≤ 64) (hs : sizeIn ks kd.length ≤ 512) :
  Calls Tryz.prog 162 #[pv] w fun e w' => ∃ KA kn kc NA nn nc, e = .returned (.tuple #[.agg #[.bool false, .slice KA kn kc, .slice none 0 0, .slice NA nn nc], .int .i64 0]) ∧ Th3 w' (fun b => w.heap.size ≤ b) w.heap.size (.slice KA kn kc) (.slice none 0 0) (.slice NA nn nc) ks [] (izs kd) ∧ Chg Non w w' := by
 obtain ⟨k0, kt, hkd⟩ : ∃ k0 kt, kd = k0 :: kt := by
  cases kd with
  | nil => simp at hn
  | cons a b => exact ⟨a, b, rfl⟩
 have hkt : kt.length = ks.length := by rw [hkd] at hn; simpa using hn
 obtain ⟨l, hl⟩ : ∃ l, l = ks.zip kt := ⟨_, rfl⟩
 have hll : l.length = ks.length := by rw [hl, List.length_zip, hkt, Nat.min_self]
 have hl1 : l.map (·.1) = ks := by rw [hl]; exact List.map_fst_zip (by omega)
 have hl2 : l.map (·.2) = kt := by rw [hl]; exact List.map_snd_zip (by omega)
 have hpl := pageIn_length hn hs
 have hk0 : k0 ≤ 65535 := hz k0 (by rw [hkd]; simp)
 have hkt5 : ∀ p ∈ l, p.1.length ≤ 64 ∧ p.2 ≤ 65535 := fun p hp => ⟨h64 _ (by rw [← hl1]; exact List.mem_map_of_mem hp), hz _ (by rw [hkd, ← hl2]; exact List.mem_cons_of_mem _ (List.mem_map_of_mem hp))⟩
 have hel := encIn_length hn
 have hen : encIn ks kd = 2 :: hi8 l.length :: lo8 l.length :: hi8 k0 :: lo8 k0 :: l.flatMap encE := by rw [hkd, hll, hl]; rfl
 have hnl : l.length ≤ 512 := by
  have h1 := sK_ge ks
  have h2 := sizeIn_sK ks kd.length
  omega
 have hp : RdB w (fun b => b < w.heap.size) pv (pageIn ks kd) := hp0.lt.mono fun b h => h.2
 clear hp0
 have hlen := fun w' ty => run_len8 hp w' ty
 rw [hpl] at hlen
 obtain ⟨PA, pc, rfl, _, _⟩ := hp.shape
 rw [hpl] at hp hlen ⊢
 go_enter Tryz.func162, Tryz.ntmps162
 go_upto_region 4 with fail
 obtain ⟨N, hN⟩ : ∃ N, N = w.heap.size := ⟨_, rfl⟩
 have hr := Blk.new w 125 #[.bool false, .slice none 0 0, .slice none 0 0, .slice none 0 0]
 have hca := (Chg.refl Non w).alloc (.cells #[.bool false, .slice none 0 0, .slice none 0 0, .slice none 0 0] 125)
 have hna : (w.alloc (.cells #[.bool false, .slice none 0 0, .slice none 0 0, .slice none 0 0] 125)).heap.size = w.heap.size + 1 := Array.size_push ..
 have hcb := (Chg.refl Non (w.alloc (.cells #[.bool false, .slice none 0 0, .slice none 0 0, .slice none 0 0] 125))).alloc (.cells #[.slice PA 512 pc, .bool false] 288)
 have hgc := Blk.new (w.alloc (.cells #[.bool false, .slice none 0 0, .slice none 0 0, .slice none 0 0] 125)) 288 #[.slice PA 512 pc, .bool false]
 rw [hna] at hgc
 have hr2 := hr.c0 hcb
 have hc02 := hca.trans0 hcb
 have hp2 := hp.c0 hc02
 rw [← hN] at hgc hr2 hp2 hna hp ⊢
 have hn2 := sizeAl' (w.alloc (.cells #[.bool false, .slice none 0 0, .slice none 0 0, .slice none 0 0] 125)) (.cells #[.slice PA 512 pc, .bool false] 288)
 rw [hna] at hn2
 have HNN := hide hN
 clear hN hr hca hcb hna hlen hp
 generalize World.alloc (World.alloc w _) _ = w2 at hgc hr2 hc02 hp2 hn2 ⊢
 have hpg : pageIn ks kd = 2 :: hi8 l.length :: lo8 l.length :: hi8 k0 :: lo8 k0 :: (l.flatMap encE ++ List.replicate (512 - sizeIn ks kd.length) 0) := by
  unfold pageIn; rw [hen]; rfl
 rw [hpg] at hp2
 obtain ⟨zs, hzs⟩ : ∃ zs : List UInt8, zs = List.replicate (512 - sizeIn ks kd.length) 0 := ⟨_, rfl⟩
 have hz0 : ∀ x ∈ zs, x = 0 := fun x hx => by rw [hzs] at hx; exact List.eq_of_mem_replicate hx
 have hfl : (l.flatMap encE).length + zs.length + 5 = 512 := by
  have h1 := hel
  rw [hen] at h1
  simp only [List.length_cons] at h1
  rw [hzs, List.length_replicate]; omega
 rw [← hzs] at hp2
 have hcur : Cur w2 N (N + 1) (2 :: hi8 l.length :: lo8 l.length :: hi8 k0 :: lo8 k0 :: (l.flatMap encE ++ zs)) := ⟨⟨_, hgc, hp2⟩, by omega⟩
 have hone := crOne hcur (by simp only [List.length_cons, List.length_append]; omega)
 have HR2 := hide hr2
 have HC02 := hide hc02
 have HZ := hide hz0
 have HD := hide (And.intro hn (And.intro hz (And.intro hu (And.intro h64 (And.intro hkd (And.intro hl1 (And.intro hl2 (And.intro hll hkt5))))))))
 clear hgc hp2 hpg hzs hcur hr2 hc02 hz0 hel hen hn hz hu h64 hkd hl1 hl2 hll hkt5 hl hkt hs hpl
 go_wp2_with fail
 refine hone.mono ?_
 rintro e w3 ⟨rfl, hcur3, hc3⟩
 have n3 := hc3.size
 clear hone
 go_upto_region 6 with fail
 have hgn := Blk.new w3 125 #[.bool false, .slice none 0 0, .slice none 0 0, .slice none 0 0]
 have hc4 := (Chg.refl Non w3).alloc (.cells #[.bool false, .slice none 0 0, .slice none 0 0, .slice none 0 0] 125)
 have n4 := sizeAl' w3 (.cells #[.bool false, .slice none 0 0, .slice none 0 0, .slice none 0 0] 125)
 obtain ⟨gn, hgne⟩ : ∃ g, g = w3.heap.size := ⟨_, rfl⟩
 rw [← hgne] at hgn n4 ⊢
 have hcur4 := hcur3.c0 hc4
 have HN3 := hide hgne
 generalize World.alloc w3 _ = w4 at hgn hc4 n4 hcur4 ⊢
 have hgnN : N + 2 ≤ gn := by omega
 have htwo := crTwo hcur4 (by simp only [List.length_cons, List.length_append]; omega)
 have hlc : (hi8 l.length).toNat * 256 + (lo8 l.length).toNat = l.length := hilo _ (by omega)
 rw [hlc] at htwo
 have hc24 : Chg (fun k => k = N + 1) w2 w4 := hc3.trans hc4 fun _ _ h => h.elim
 have HGN := hide hgn
 have HC24 := hide hc24
 clear hgne hcur3 hcur4 hlc hgn hc3 hc4 hc24
 go_wp2_with fail
 refine htwo.mono ?_
 rintro e w5 ⟨rfl, hcur5, hc5⟩
 have hgn5 := HGN.out.chg hc5 (show ¬ gn = N + 1 by omega)
 have b0 : w5.cell? ⟨gn, 0, none⟩ = some (.bool false) := hgn5.cell 0
 have HC25 := hide (HC24.out.trans hc5 fun _ _ h => h)
 have n5 := hc5.size
 have htwo2 := crTwo hcur5 (by simp only [List.length_append]; omega)
 have hlc : (hi8 k0).toNat * 256 + (lo8 k0).toNat = k0 := hilo _ (by omega)
 rw [hlc] at htwo2
 have HGN5 := hide hgn5
 clear htwo hgn5 hcur5 hc5 hlc
 have HW5 := hide n5
 go_upto_region 8 with fail
 have hz3 := HGN5.out.frozen 3
 go_upto_region 10 with (go_at_call 192; refine htwo2.mono ?_; rintro e w6 ⟨rfl, hcur6, hc6⟩; have hg6 := HGN5.out.chg hc6 (show ¬ gn = N + 1 by omega); have hA6 := (Chg.refl Non w6).alloc (.cells #[.int .i64 (k0 : Int)] 3); have g63 := (hg6.c0 hA6).cell 3; have f63 := (hg6.c0 hA6).frozen 3; simp at g63)
 have hO6 := ownI_one w6 (k0 : Int)
 have hg7 := (hg6.c0 hA6).set_ 3 (.slice (some ⟨w6.heap.size, 0, none⟩) 1 1)
 simp at hg7
 have hs7 : Chg (fun k => k = gn) (w6.alloc (.cells #[.int .i64 (k0 : Int)] 3)) ((w6.alloc (.cells #[.int .i64 (k0 : Int)] 3)).setCell ⟨gn, 3, none⟩ (.slice (some ⟨w6.heap.size, 0, none⟩) 1 1)) := Chg.setCell (p := ⟨gn, 3, none⟩) (Chg.refl (fun k => k = gn) _) (fun _ => rfl) _
 have n6 := hc6.size
 have hgl := HGN5.out.lt
 have hO7 := hO6.chg hs7 (fun b e e2 => by
   have e : w6.heap.size = b := by simpa [Value.ownBlock] using e
   have e2 : b = gn := e2
   omega)
 have hcur7 := (hcur6.c0 hA6).chg hs7 (show ¬ N + 1 = gn by omega) fun b hb e => by have e : b = gn := e; omega
 have hc57 : Chg (fun k => k = N + 1 ∨ k = gn) w5 ((w6.alloc (.cells #[.int .i64 (k0 : Int)] 3)).setCell ⟨gn, 3, none⟩ (.slice (some ⟨w6.heap.size, 0, none⟩) 1 1)) := (((hc6.mono fun b _ e => .inl e).trans0 hA6).trans hs7 fun b hb e => .inr e)
 obtain ⟨gk, hgk⟩ : ∃ g, g = w6.heap.size := ⟨_, rfl⟩
 rw [← hgk] at hO7 hg7 hcur7 hc57 ⊢
 have hT7 : Th3 ((w6.alloc (.cells #[.int .i64 (k0 : Int)] 3)).setCell ⟨gn, 3, none⟩ (.slice (some ⟨gk, 0, none⟩) 1 1)) (fun b => w5.heap.size ≤ b) w5.heap.size (.slice none 0 0) (.slice none 0 0) (.slice (some ⟨gk, 0, none⟩) 1 1) [] [] (izs [k0]) :=
  ⟨OwnBB.nil_ .., OwnBB.nil_ .., hO7.low (by omega), fun b e => (by cases e), fun b e => (by cases e), fun b e => (by cases e)⟩
 have HT7 := hide hT7
 have HB7 := hide hg7
 have HC7 := hide hcur7
 have HW7 := hide hc57
 clear hT7 hg7 hcur7 hc57 hO7 hs7 hO6 hgk hA6 g63 f63 hg6 hcur6 hc6 hz3 htwo2 b0 n6
 generalize World.setCell (World.alloc w6 _) _ _ = w7 at HT7 HB7 HC7 HW7 ⊢
 go_loopw [8] (fun iv wr => ∃ (i : Nat) (KA : Option Addr) (kn kc : Nat) (NA : Option Addr) (nn nc : Nat), i ≤ l.length ∧ iv = .int .i64 (i : Int) ∧ Blk wr gn 125 #[.bool false, .slice KA kn kc, .slice none 0 0, .slice NA nn nc] ∧ Th3 wr (fun b => w5.heap.size ≤ b) w5.heap.size (.slice KA kn kc) (.slice none 0 0) (.slice NA nn nc) ((l.take i).map (·.1)) [] (izs (k0 :: (l.take i).map (·.2))) ∧ Cur wr N (N + 1) ((l.drop i).flatMap encE ++ zs) ∧ Chg (fun k => k = N + 1 ∨ k = gn) w5 wr) (fun iv _ => l.length - (intOf iv).toNat)
 case atStart => exact ⟨0, _, _, _, _, _, _, Nat.zero_le _, rfl, HB7.out, HT7.out, HC7.out, HW7.out⟩
 case round =>
  obtain ⟨i, KA, kn, kc, NA, nn, nc, hi, rfl, hbn, hT, hC, hcw⟩ := hrel
  have hcu := hC
  obtain ⟨cv, hcb, hcr⟩ := hcu.ex
  have c1 : wr.cell? ⟨N + 1, 1, none⟩ = some (.bool false) := hcb.cell 1
  have c0 : wr.cell? ⟨N + 1, 0, none⟩ = some cv := hcb.cell 0
  have nr := hcw.size
  by_cases hil : i < l.length
  ·obtain ⟨p, hp⟩ : ∃ p, p = l[i] := ⟨_, rfl⟩
   have hpm : p ∈ l := by rw [hp]; exact List.getElem_mem hil
   have hpl := HD.out.2.2.2.2.2.2.2.2 p hpm
   have hdr : l.drop i = p :: l.drop (i + 1) := by rw [hp]; exact List.drop_eq_getElem_cons hil
   have hkt : (l.take (i + 1)).map (·.1) = (l.take i).map (·.1) ++ [p.1] := by rw [List.take_succ_eq_append_getElem hil, List.map_append, ← hp]; rfl
   have hvt : izs (k0 :: (l.take (i + 1)).map (·.2)) = izs (k0 :: (l.take i).map (·.2)) ++ [(p.2 : Int)] := by rw [List.take_succ_eq_append_getElem hil, List.map_append, ← hp]; simp [izs]
   obtain ⟨rs, hrs⟩ : ∃ rs, rs = (l.drop (i + 1)).flatMap encE ++ zs := ⟨_, rfl⟩
   have hst : (l.drop i).flatMap encE ++ zs = UInt8.ofNat p.1.length :: (p.1 ++ (hi8 p.2 :: lo8 p.2 :: rs)) := by
    rw [hdr, List.flatMap_cons, hrs]; simp [encE]
   have hrl : rs.length + p.1.length + 3 ≤ 512 := by
    have h1 := congrArg List.length hst
    have h2 : ((l.drop i).flatMap encE).length ≤ (l.flatMap encE).length := by
     conv => rhs; rw [← List.take_append_drop i l, List.flatMap_append, List.length_append]
     omega
    simp only [List.length_append, List.length_cons] at h1
    omega
   rw [hst] at hC
   obtain ⟨L1, hL1⟩ : ∃ L1, L1 = p.1.length := ⟨_, rfl⟩
   rw [← hL1] at hC hrl hpl
   have t8 := toNat8 (n := L1) (by omega)
   have hlt1 : ((l.take i).map (·.1)).length ≤ 1000 := by rw [List.length_map, List.length_take]; omega
   have hlt2 : (izs (k0 :: (l.take i).map (·.2))).length ≤ 1000 := by rw [izs_len, List.length_cons, List.length_map, List.length_take]; omega
   have hdi : ¬ l.length ≤ i := by omega
   have HCU := hide hC
   have H8 := hide t8
   have HIL := hide hil
   have HKT := hide (And.intro hkt hvt)
   have HRS := hide hrs
   have HL := hide (And.intro hL1 (And.intro hlt1 hlt2))
   have HTW := hide hT
   have HBN := hide hbn
   have HCW := hide hcw
   clear hp hpm hdr hkt hvt hrs hst hL1 t8 hlt1 hlt2 hT hC hcu hcb hcr hbn hcw hi
   go_upto_region 12 with fail
   have HRL := hide hrl
   have HPL := hide hpl
   clear hrl hpl c0 c1
   refine wp_region_T (fun wx => Blk wx gn 125 #[.bool false, .slice KA kn kc, .slice none 0 0, .slice NA nn nc]) 9 (by kernel_rfl) ?_
   have HT0 := hide (HTW.out.c0 ((Chg.refl Non wr).drew))
   have HB0 : Hid (Blk wr.drew gn 125 #[.bool false, .slice KA kn kc, .slice none 0 0, .slice NA nn nc]) := hide (HBN.out.c0 ((Chg.refl Non wr).drew))
   have HC0 := hide (HCU.out.c0 ((Chg.refl Non wr).drew))
   have HW0 : Hid (Chg (fun k => k = N + 1 ∨ k = gn) w5 wr.drew) := hide HCW.out.drew
   clear HTW HBN HCU HCW nr
   generalize World.drew wr = x0 at HT0 HB0 HC0 HW0 ⊢
   refine AnyT.take (i := 0) (v := ?_) rfl (by kernel_rfl) (by kernel_rfl) (fun _ _ _ h => h) (by kernel_rfl) (by kernel_rfl) (Or.inl ⟨by rfl, ?_⟩) HB0.out ?_
   rotate_left
   ·(intro w9 h9; go_simp; try with_reducible rfl)
   try simp only [lz1, lz2, lz3, Act.put, lz4, lz5, lz6]
   refine AnyT.take (i := 1) (v := ?_) rfl (by kernel_rfl) (by kernel_rfl) (fun _ _ _ h => h) (by kernel_rfl) (by kernel_rfl) (Or.inl ⟨by rfl, ?_⟩) HB0.out ?_
   rotate_left
   ·(intro w9 h9; have y1 : w9.cell? ⟨gn, 1, none⟩ = some (.slice KA kn kc) := h9.cell 1; go_simp; try with_reducible rfl)
   try simp only [lz1, lz2, lz3, Act.put, lz4, lz5, lz6]
   refine AnyT.take (i := 2) (v := ?_) rfl (by kernel_rfl) (by kernel_rfl) (fun _ _ _ h => h) (by kernel_rfl) (by kernel_rfl) (Or.inl ⟨by rfl, ?_⟩) HB0.out ?_
   rotate_left
   ·(intro w9 h9; go_simp; try with_reducible rfl)
   try simp only [lz1, lz2, lz3, Act.put, lz4, lz5, lz6]
   refine AnyT.take (i := 3) (v := ?_) rfl (by kernel_rfl) (by kernel_rfl) (fun _ _ _ h => h) (by kernel_rfl) (by kernel_rfl) (Or.inl ⟨by rfl, ?_⟩) HB0.out ?_
   rotate_left
   ·(intro w9 h9; go_simp; try with_reducible rfl)
   try simp only [lz1, lz2, lz3, Act.put, lz4, lz5, lz6]
   refine AnyT.one (i := 4) (by kernel_rfl) rfl (fun K hK => ?_)
   rw [if_pos (by rfl)]
   try simp only [lz1, lz2, lz3, Act.put, lz4, lz5, lz6]
   have hcc := crOne HC0.out (by simp only [List.length_append, List.length_cons]; have := HRL.out; have := HL.out; omega)
   rw [H8.out] at hcc
   go_wp2_with (go_at_call 191; refine hcc.mono ?_; rintro e x1 ⟨rfl, hC1, hd1⟩)
   have HC1 := hide hC1
   have HB1 := hide (HB0.out.chg hd1 (show ¬ gn = N + 1 by omega))
   have HT1 := hide (HT0.out.chg hd1 (fun b hb e => by have e : b = N + 1 := e; omega) fun b hb e => by have e : b = N + 1 := e; omega)
   have HW1 := hide (HW0.out.trans hd1 fun b hb e => .inl e)
   have n1 := hd1.size
   refine hK.out _ _ (fun _ => HB1.out) ?_
   clear hcc hC1 hd1 HC0 HB0 HT0 HW0
   clear hK K
   try simp only [lz1, lz2, lz3, Act.put, lz4, lz5, lz6]
   refine AnyT.one (i := 5) (by kernel_rfl) rfl (fun K hK => ?_)
   rw [if_pos (by rfl)]
   try simp only [lz1, lz2, lz3, Act.put, lz4, lz5, lz6]
   have hcc := crTakeP HC1.out HL.out.1 (by simp only [List.length_append, List.length_cons]; have := HRL.out; have := HL.out; omega)
   go_wp2_with (go_at_call 193; refine hcc.mono ?_; rintro e x2 ⟨u, rfl, hu, hC2, hd2⟩)
   obtain ⟨UA, un, uc, rfl⟩ := hu.shapeH
   have HC2 := hide hC2
   have HB2 := hide (HB1.out.chg hd2 (show ¬ gn = N + 1 by omega))
   have HT2 := hide (HT1.out.chg hd2 (fun b hb e => by have e : b = N + 1 := e; omega) fun b hb e => by have e : b = N + 1 := e; omega)
   have HW2 := hide (HW1.out.trans hd2 fun b hb e => .inl e)
   have n2 := hd2.size
   have HW1s := hide HW1.out.size
   refine hK.out _ _ (fun _ => HB2.out) ?_
   clear hcc hC2 hd2 HC1 HB1 HW1
   clear hK K
   try simp only [lz1, lz2, lz3, Act.put, lz4, lz5, lz6]
   refine AnyT.one (i := 6) (by kernel_rfl) rfl (fun K hK => ?_)
   rw [if_pos (by rfl)]
   try simp only [lz1, lz2, lz3, Act.put, lz4, lz5, lz6]
   go_simp
   have hd3 := (Chg.refl Non x2).alloc (.cells #[.slice UA un uc] 30)
   have hb3 := Blk.new x2 30 #[.slice UA un uc]
   obtain ⟨g3, hg3⟩ : ∃ g, g = x2.heap.size := ⟨_, rfl⟩
   rw [← hg3] at hb3 ⊢
   generalize hww : World.alloc x2 _ = x3
   rw [show x2.alloc (.cells #[.slice UA un uc] 30) = x3 from hww] at hd3 hb3
   clear hww hg3
   replace hu := hu.chg hd3 fun _ _ h => h
   have hfr := HT1.out.fresh hu (fun b hb => by have := HW1s.out; omega)
   have HC3 := hide (HC2.out.c0 hd3)
   have HB3 := hide (HB2.out.c0 hd3)
   have HT3 := hide (HT2.out.c0 hd3)
   have HW3 := hide (HW2.out.trans0 hd3)
   have n3' := hd3.size
   refine hK.out _ _ (fun _ => HB3.out) ?_
   clear hd3 hu HC2 HB2 HT2 HW2 HT1
   clear hK K
   try simp only [lz1, lz2, lz3, Act.put, lz4, lz5, lz6]
   refine AnyT.one (i := 7) (by kernel_rfl) rfl (fun K hK => ?_)
   rw [if_pos (by rfl)]
   try simp only [lz1, lz2, lz3, Act.put, lz4, lz5, lz6]
   refine oper_BB _ _ rfl HT3.out.k rfl hfr.1 hb3 rfl (by have := HL.out.2.1; omega) HW3.out.size ?_
   intro kv4 x4 hO4 hg4 hat4
   obtain ⟨KB, kbn, kbc, rfl⟩ := hO4.shapeH
   obtain ⟨hd4, hat⟩ := grown_at hg4 hat4
   have HT4 := hide (HT3.out.putK hO4 hd4 hat)
   have hge : ∀ b, Value.ownBlock (.slice KA kn kc) = some b → w5.heap.size ≤ b := fun b e => (HT3.out.k.lt b e).1
   have HC4 := hide (HC3.out.chg hd4 (fun e => by have := hge _ e; omega) fun b hb e => by have := hge _ e; omega)
   have HB4 := hide (HB3.out.chg hd4 (fun e => by have := hge _ e; omega))
   have HW4 := hide (HW3.out.trans hd4 fun b hb e => by have := hge _ e; omega)
   have n4' := hd4.size
   refine hK.out _ _ (fun _ => HB4.out) ?_
   clear hfr hb3 hO4 hg4 hat4 hd4 hat hge HC3 HB3 HT3 HW3
   clear hK K
   try simp only [lz1, lz2, lz3, Act.put, lz4, lz5, lz6]
   refine AnyT.take (i := 8) (v := ?_) rfl (by kernel_rfl) (by kernel_rfl) (fun _ _ _ h => h) (by kernel_rfl) (by kernel_rfl) (Or.inl ⟨by rfl, ?_⟩) HB4.out ?_
   rotate_left
   ·(intro w9 h9; go_simp; try with_reducible rfl)
   try simp only [lz1, lz2, lz3, Act.put, lz4, lz5, lz6]
   refine AnyT.one (i := 9) (by kernel_rfl) rfl (fun K hK => ?_)
   rw [if_pos (by rfl)]
   try simp only [lz1, lz2, lz3, Act.put, lz4, lz5, lz6]
   have y1 : x4.cell? ⟨gn, 1, none⟩ = some (.slice KA kn kc) := HB4.out.cell 1
   have z1 := HB4.out.frozen 1
   have hb6 := HB4.out.set_ 1 (.slice KB kbn kbc)
   simp at hb6
   have hd6 : Chg (fun k => k = gn) x4 (x4.setCell ⟨gn, 1, none⟩ (.slice KB kbn kbc)) := Chg.setCell (p := ⟨gn, 1, none⟩) (Chg.refl (fun k => k = gn) x4) (fun _ => rfl) _
   have HB6 := hide hb6
   have HT6 := hide (HT4.out.chg hd6 (fun b hb e => by have e : b = gn := e; omega) fun b hb e => by have e : b = gn := e; omega)
   have HC6 := hide (HC4.out.chg hd6 (show ¬ N + 1 = gn by omega) fun b hb e => by have e : b = gn := e; omega)
   have HW6 := hide (HW4.out.trans hd6 fun b hb e => .inr e)
   have b06 := HB6.out.cell 0
   simp at b06
   go_simp
   refine hK.out _ _ (fun h => absurd h (by decide)) ?_
   clear hb6 hd6 y1 z1
   generalize World.setCell x4 _ _ = x6 at HB6 HT6 HC6 HW6 b06 ⊢
   clear hK K
   try simp only [lz1, lz2, lz3, Act.put, lz4, lz5, lz6]
   refine AnyT.nil (by kernel_rfl) ?_
   clear HB4 HT4 HC4 HW4
   go_upto_region 15 with fail
   refine wp_region_T (fun wx => Blk wx gn 125 #[.bool false, .slice KB kbn kbc, .slice none 0 0, .slice NA nn nc]) 7 (by kernel_rfl) ?_
   have HT0 := hide (HT6.out.c0 ((Chg.refl Non x6).drew))
   have HB0 : Hid (Blk x6.drew gn 125 #[.bool false, .slice KB kbn kbc, .slice none 0 0, .slice NA nn nc]) := hide (HB6.out.c0 ((Chg.refl Non x6).drew))
   have HC0 := hide (HC6.out.c0 ((Chg.refl Non x6).drew))
   have HW0 : Hid (Chg (fun k => k = N + 1 ∨ k = gn) w5 x6.drew) := hide HW6.out.drew
   clear HT6 HB6 HC6 HW6 b06
   generalize World.drew x6 = x0 at HT0 HB0 HC0 HW0 ⊢
   refine AnyT.take (i := 0) (v := ?_) rfl (by kernel_rfl) (by kernel_rfl) (fun _ _ _ h => h) (by kernel_rfl) (by kernel_rfl) (Or.inl ⟨by rfl, ?_⟩) HB0.out ?_
   rotate_left
   ·(intro w9 h9; go_simp; try with_reducible rfl)
   try simp only [lz1, lz2, lz3, Act.put, lz4, lz5, lz6]
   refine AnyT.take (i := 1) (v := ?_) rfl (by kernel_rfl) (by kernel_rfl) (fun _ _ _ h => h) (by kernel_rfl) (by kernel_rfl) (Or.inl ⟨by rfl, ?_⟩) HB0.out ?_
   rotate_left
   ·(intro w9 h9; have y1 : w9.cell? ⟨gn, 3, none⟩ = some (.slice NA nn nc) := h9.cell 3; go_simp; try with_reducible rfl)
   try simp only [lz1, lz2, lz3, Act.put, lz4, lz5, lz6]
   refine AnyT.take (i := 2) (v := ?_) rfl (by kernel_rfl) (by kernel_rfl) (fun _ _ _ h => h) (by kernel_rfl) (by kernel_rfl) (Or.inl ⟨by rfl, ?_⟩) HB0.out ?_
   rotate_left
   ·(intro w9 h9; go_simp; try with_reducible rfl)
   try simp only [lz1, lz2, lz3, Act.put, lz4, lz5, lz6]
   refine AnyT.one (i := 3) (by kernel_rfl) rfl (fun K hK => ?_)
   rw [if_pos (by rfl)]
   try simp only [lz1, lz2, lz3, Act.put, lz4, lz5, lz6]
   have hcc := crTwo HC0.out (by have := HRL.out; omega)
   rw [hilo _ (by have := HPL.out; omega)] at hcc
   go_wp2_with (go_at_call 192; refine hcc.mono ?_; rintro e x1 ⟨rfl, hC1, hd1⟩)
   have HC1 := hide hC1
   have HB1 := hide (HB0.out.chg hd1 (show ¬ gn = N + 1 by omega))
   have HT1 := hide (HT0.out.chg hd1 (fun b hb e => by have e : b = N + 1 := e; omega) fun b hb e => by have e : b = N + 1 := e; omega)
   have HW1 := hide (HW0.out.trans hd1 fun b hb e => .inl e)
   have n1 := hd1.size
   refine hK.out _ _ (fun _ => HB1.out) ?_
   clear hcc hC1 hd1 HC0 HB0 HT0 HW0
   clear hK K
   try simp only [lz1, lz2, lz3, Act.put, lz4, lz5, lz6]
   refine AnyT.one (i := 4) (by kernel_rfl) rfl (fun K hK => ?_)
   rw [if_pos (by rfl)]
   try simp only [lz1, lz2, lz3, Act.put, lz4, lz5, lz6]
   go_simp
   have hd3 := (Chg.refl Non x1).alloc (.cells #[.int .i64 (p.2 : Int)] 3)
   have hb3 := Blk.new x1 3 #[.int .i64 (p.2 : Int)]
   obtain ⟨g3, hg3⟩ : ∃ g, g = x1.heap.size := ⟨_, rfl⟩
   rw [← hg3] at hb3 ⊢
   generalize hww : World.alloc x1 _ = x3
   rw [show x1.alloc (.cells #[.int .i64 (p.2 : Int)] 3) = x3 from hww] at hd3 hb3
   clear hww hg3
   have HC3 := hide (HC1.out.c0 hd3)
   have HB3 := hide (HB1.out.c0 hd3)
   have HT3 := hide (HT1.out.c0 hd3)
   have HW3 := hide (HW1.out.trans0 hd3)
   have n3' := hd3.size
   refine hK.out _ _ (fun _ => HB3.out) ?_
   clear hd3 HC1 HB1 HT1 HW1
   clear hK K
   try simp only [lz1, lz2, lz3, Act.put, lz4, lz5, lz6]
   refine AnyT.one (i := 5) (by kernel_rfl) rfl (fun K hK => ?_)
   rw [if_pos (by rfl)]
   try simp only [lz1, lz2, lz3, Act.put, lz4, lz5, lz6]
   refine oper_I _ _ rfl HT3.out.i rfl hb3 rfl (by have := HL.out.2.2; omega) HW3.out.size ?_
   intro kv4 x4 hO4 hg4 hat4
   obtain ⟨NB, nbc, rfl, _, _⟩ := hO4.shape
   generalize hnl9 : (izs (k0 :: (l.take i).map (·.2)) ++ [(p.2 : Int)]).length = nbn at hO4 hat4 ⊢
   obtain ⟨hd4, hat⟩ := grown_at hg4 hat4
   have HT4 := hide (HT3.out.putI hO4 hd4 hat)
   have hge : ∀ b, Value.ownBlock (.slice NA nn nc) = some b → w5.heap.size ≤ b := fun b e => (HT3.out.i.lt b e).1
   have HC4 := hide (HC3.out.chg hd4 (fun e => by have := hge _ e; omega) fun b hb e => by have := hge _ e; omega)
   have HB4 := hide (HB3.out.chg hd4 (fun e => by have := hge _ e; omega))
   have HW4 := hide (HW3.out.trans hd4 fun b hb e => by have := hge _ e; omega)
   have n4' := hd4.size
   clear hnl9
   refine hK.out _ _ (fun _ => HB4.out) ?_
   clear hb3 hO4 hg4 hat4 hd4 hat hge HC3 HB3 HT3 HW3
   clear hK K
   try simp only [lz1, lz2, lz3, Act.put, lz4, lz5, lz6]
   refine AnyT.take (i := 6) (v := ?_) rfl (by kernel_rfl) (by kernel_rfl) (fun _ _ _ h => h) (by kernel_rfl) (by kernel_rfl) (Or.inl ⟨by rfl, ?_⟩) HB4.out ?_
   rotate_left
   ·(intro w9 h9; go_simp; try with_reducible rfl)
   try simp only [lz1, lz2, lz3, Act.put, lz4, lz5, lz6]
   refine AnyT.one (i := 7) (by kernel_rfl) rfl (fun K hK => ?_)
   rw [if_pos (by rfl)]
   try simp only [lz1, lz2, lz3, Act.put, lz4, lz5, lz6]
   have y1 : x4.cell? ⟨gn, 3, none⟩ = some (.slice NA nn nc) := HB4.out.cell 3
   have z1 := HB4.out.frozen 3
   have hb6 := HB4.out.set_ 3 (.slice NB nbn nbc)
   simp at hb6
   have hd6 : Chg (fun k => k = gn) x4 (x4.setCell ⟨gn, 3, none⟩ (.slice NB nbn nbc)) := Chg.setCell (p := ⟨gn, 3, none⟩) (Chg.refl (fun k => k = gn) x4) (fun _ => rfl) _
   have HB6 := hide hb6
   have HT6 := hide (HT4.out.chg hd6 (fun b hb e => by have e : b = gn := e; omega) fun b hb e => by have e : b = gn := e; omega)
   have HC6 := hide (HC4.out.chg hd6 (show ¬ N + 1 = gn by omega) fun b hb e => by have e : b = gn := e; omega)
   have HW6 := hide (HW4.out.trans hd6 fun b hb e => .inr e)
   have b06 := HB6.out.cell 0
   simp at b06
   go_simp
   refine hK.out _ _ (fun h => absurd h (by decide)) ?_
   clear hb6 hd6 y1 z1
   generalize World.setCell x4 _ _ = x6 at HB6 HT6 HC6 HW6 b06 ⊢
   clear hK K
   try simp only [lz1, lz2, lz3, Act.put, lz4, lz5, lz6]
   refine AnyT.nil (by kernel_rfl) ?_
   go_wp2_with fail
   go_roundw
   case rel => exact ⟨i + 1, _, _, _, _, _, _, HIL.out, by go_num, HB6.out, by rw [HKT.out.1, HKT.out.2]; exact HT6.out, by rw [← HRS.out]; exact HC6.out, HW6.out⟩
   case measure => (have := HIL.out; simp [intOf]; omega)
  ·have hik : i = l.length := by omega
   subst hik
   rw [List.take_length] at hT
   rw [List.drop_length] at hC hcr
   have hD := HD.out
   rw [hD.2.2.2.2.2.1, hD.2.2.2.2.2.2.1, ← hD.2.2.2.2.1] at hT
   have hcr : RdB wr (fun b => b < N) cv zs := hcr
   have hzero := idxZero hcr HZ.out
   have hvn : nn = kd.length := by obtain ⟨_, _, e, _, _⟩ := hT.i.shape; injection e with _ e _; rw [e, izs_len]
   have hchk := inCheck hT.rdK hT.rdV hT.rdI hD.1 hD.2.1 hD.2.2.1 hD.2.2.2.1 (by have := hD.2.2.2.2.2.2.2.1; omega)
   have HTW := hide hT
   have HBN := hide hbn
   have HCW := hide hcw
   obtain ⟨⟨b0, b1, b2, b3⟩, _⟩ := blk4 hbn
   have hgr : ¬ l.length < l.length := Nat.lt_irrefl _
   clear hT hC hcr hcu hcb hbn hcw hi hil hD hvn
   go_wp2_with fail
   refine hzero.mono ?_
   rintro e w8 ⟨rfl, hw8⟩
   subst w8
   clear hzero
   go_wp2_with fail
   refine hchk.mono ?_
   rintro e w9 ⟨rfl, hc9⟩
   have hb9 := HBN.out.c0 hc9
   obtain ⟨⟨b09, b19, b29, b39⟩, _⟩ := blk4 hb9
   have hr9 := ((HR2.out.chg HC25.out (show ¬ N = N + 1 by omega)).chg HCW.out (show ¬ (N = N + 1 ∨ N = gn) by omega)).c0 hc9
   obtain ⟨⟨r0, r1, r2, r3⟩, f0, f1, f2, f3⟩ := blk4 hr9
   obtain ⟨hr8, hc8⟩ := put4 hr9 (.bool false) (.slice KA kn kc) (.slice none 0 0) (.slice NA nn nc)
   have HR8 := hide hr8
   have HC8 := hide hc8
   have HC9 := hide hc9
   clear hchk b0 b1 b2 b3 c0 c1 hr9 hr8 hc8 hc9 hb9
   go_wp2_with fail
   generalize World.setCell _ _ _ = w10 at HR8 HC8 ⊢
   obtain ⟨⟨q0, q1, q2, q3⟩, _⟩ := blk4 HR8.out
   have h1 := HNN.out
   have n9 := HC9.out.size
   have n8 := HC8.out.size
   refine bodyPost_ret (v := .tuple #[.agg #[.bool false, .slice KA kn kc, .slice none 0 0, .slice NA nn nc], .int .i64 0]) (by simp [results, Tryz.results162, go_sem, q0, q1, q2, q3]) rfl ⟨_, _, _, _, _, _, rfl, ?_, ?_⟩
   ·have n5' := HW5.out
    exact (((HTW.out.c0 HC9.out).chg HC8.out (fun b hb e => by have e : b = N := e; omega) fun b hb e => by have e : b = N := e; omega).low (by omega)).mono fun b hb => by omega
   ·exact (((HC02.out.trans HC25.out fun b hb e => by have e : b = N + 1 := e; omega).trans HCW.out fun b hb e => by have e : b = N + 1 ∨ b = gn := e; omega).trans0 HC9.out).trans HC8.out fun b hb e => by have e : b = N := e; omega
end Go.Proofs.YtliimeoblffigaaGreat

