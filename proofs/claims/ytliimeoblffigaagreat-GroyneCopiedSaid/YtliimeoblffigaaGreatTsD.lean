/- The walk of btree's put. -/
import Derived.Test.YtliimeoblffigaaGreatTsC
import Derived.Test.YtliimeoblffigaaGreatNdPG
set_option linter.unusedVariables false
set_option linter.unusedSimpArgs false
set_option maxRecDepth 100000
namespace Go.Proofs.YtliimeoblffigaaGreat
open Go.RowKit Go.Maps
set_option linter.unusedVariables false
set_option linter.unusedSimpArgs false

section
variable {ids ids' : List Nat} {ct : Nat → List UInt8} {id o : Nat} {l : List KV} {key : List UInt8}
theorem putL_one (hi : id ∈ ids) (hl : id ≤ 65535) (hg : GoodKV l) (hs : sizeKV l ≤ 512) : Upd ids ids ct (upd ct id (pageKV l)) [id] [id] ∧ TR (upd ct id (pageKV l)) 0 id [id] l :=
  ⟨(Upd.refl (by simp) (fun j hj => by rw [List.mem_singleton.1 hj]; exact hi) fun _ _ => rfl).write (by simp) (by simp), TR.writeL hl hg hs rfl⟩
theorem key_mid {j : Nat} (hg : GoodKV l) (hk : (ksL l)[j]? = some key) : (∀ p ∈ l.take j, cmpB p.1 key < 0) ∧ (∀ p ∈ l.drop j, cmpB key p.1 ≤ 0) ∧ key.length ≤ 64 := by
  unfold ksL at hk
  rw [List.getElem?_map] at hk
  obtain ⟨p, hp, rfl⟩ := Option.map_eq_some_iff.1 hk
  obtain ⟨hj, rfl⟩ := List.getElem?_eq_some_iff.1 hp
  have hu := hg.upL
  have e := split_at hj
  unfold UpL at hu
  rw [e] at hu
  obtain ⟨_, h2, h3⟩ := List.pairwise_append.1 hu
  refine ⟨fun p hp => h3 p hp _ List.mem_cons_self, fun p hp => ?_, (hg.len _ (List.getElem_mem hj)).1⟩
  rw [List.drop_eq_getElem_cons hj] at hp
  rcases List.mem_cons.1 hp with rfl | hp
  · rw [cmpB_refl]; exact Int.le_refl _
  · exact Int.le_of_lt ((List.pairwise_cons.1 h2).1 p hp)
theorem putL_two {j : Nat} (hi : id ∈ ids) (hl : id ≤ 65535) (ho : o ∉ ids) (hol : o ≤ 65535) (hids : ∀ j, j ∈ ids' ↔ j = o ∨ j ∈ ids) (hg : GoodKV l) (h1 : 1 ≤ j) (h2 : j ≤ l.length - 1) (s1 : sizeKV (l.take j) ≤ 512) (s2 : sizeKV (l.drop j) ≤ 512) (hk : (ksL l)[j]? = some key) :
    Upd ids ids' ct (upd (upd ct id (pageKV (l.take j))) o (pageKV (l.drop j))) [id] ([id] ++ [o]) ∧ TR (upd (upd ct id (pageKV (l.take j))) o (pageKV (l.drop j))) 0 id [id] (l.take j) ∧ TR (upd (upd ct id (pageKV (l.take j))) o (pageKV (l.drop j))) 0 o [o] (l.drop j) ∧ l.take j ≠ [] ∧ l.drop j ≠ [] ∧ (∀ p ∈ l.take j, cmpB p.1 key < 0) ∧ (∀ p ∈ l.drop j, cmpB key p.1 ≤ 0) ∧ key.length ≤ 64 := by
  have hjl : j < l.length := by
    have := (List.getElem?_eq_some_iff.1 hk).1
    rwa [ksL_length] at this
  have hio : id ≠ o := fun e => ho (e ▸ hi)
  obtain ⟨U, _⟩ := putL_one (ct := ct) hi hl (hg.take j) s1
  have U2 := Upd.fresh (P := [id]) (Q := []) (b := pageKV (l.drop j)) U ho hids (fun x hx => by rw [List.mem_singleton.1 hx]; exact hi) (by simp; exact fun e => hio e.symm)
  refine ⟨U2, ⟨rfl, hl, by rw [upd_ne hio, upd_same], hg.take j, s1⟩, TR.writeL hol (hg.drop j) s2 rfl, fun e => ?_, fun e => ?_, key_mid hg hk⟩
  · have := congrArg List.length e; rw [List.length_take, List.length_nil] at this; omega
  · have := congrArg List.length e; rw [List.length_drop, List.length_nil] at this; omega
theorem ksL_ins (i : Nat) (p : KV) : ksL (insL l i p) = (ksL l).take i ++ p.1 :: (ksL l).drop i := by unfold insL ksL; simp [List.map_take, List.map_drop]
theorem vsL_ins (i : Nat) (p : KV) : vsL (insL l i p) = (vsL l).take i ++ p.2 :: (vsL l).drop i := by unfold insL vsL; simp [List.map_take, List.map_drop]
theorem ksL_rm (i : Nat) : ksL (rmL l i true) = (ksL l).take i ++ (ksL l).drop (i + 1) := by unfold rmL ksL; simp [List.map_take, List.map_drop]
theorem vsL_rm (i : Nat) : vsL (rmL l i true) = (vsL l).take i ++ (vsL l).drop (i + 1) := by unfold rmL vsL; simp [List.map_take, List.map_drop]
theorem GoodKV.big (hg : GoodKV l) : (∀ x ∈ ksL l, x.length ≤ 1000000) ∧ ∀ x ∈ vsL l, x.length ≤ 1000000 := ⟨fun x hx => by obtain ⟨p, hp, rfl⟩ := List.mem_map.1 hx; have := (hg.len p hp).1; omega, fun x hx => by obtain ⟨p, hp, rfl⟩ := List.mem_map.1 hx; have := (hg.len p hp).2; omega⟩
end
/-- what put answers: below id stands what was asked, or below id and a new page o, with a key between -/
def PutP (w : World) (T : Nat → Prop) (g hand : Nat) (pre : ByteArray) (q : Nat) (ids : List Nat) (ct : Nat → List UInt8) (ps : List Nat) (h id : Nat) (l : List KV) (e : Ending) (w' : World) : Prop :=
  ∃ (T' : Nat → Prop) (ids' : List Nat) (ct' : Nat → List UInt8), TS w' T' g hand pre (q + 3 * (h + 1)) ids' ct' ∧ (∀ b, T' b → Ext T w w' b) ∧ Chg T w w' ∧ ids'.length ≤ ids.length + h + 1 ∧ (∀ j ∈ ids, j ∈ ids') ∧
    ((e = .returned (.tuple #[.slice none 0 0, .int .i64 (-1), .int .i64 0]) ∧ ∃ ps', Upd ids ids' ct ct' ps ps' ∧ TR ct' h id ps' l) ∨
     ∃ (o : Nat) (p1 p2 : List Nat) (l1 l2 : List KV) (KA : Option Addr) (kn kc : Nat) (key : List UInt8), e = .returned (.tuple #[.slice KA kn kc, .int .i64 (o : Int), .int .i64 0]) ∧ Upd ids ids' ct ct' ps (p1 ++ p2) ∧ TR ct' h id p1 l1 ∧ TR ct' h o p2 l2 ∧ l1 ++ l2 = l ∧ l1 ≠ [] ∧ l2 ≠ [] ∧ (∀ p ∈ l1, cmpB p.1 key < 0) ∧ (∀ p ∈ l2, cmpB key p.1 ≤ 0) ∧ key.length ≤ 64 ∧ RdB w' (fun b => w.heap.size ≤ b ∧ ¬ T' b ∧ b < w'.heap.size) (.slice KA kn kc) key)
section
variable {w : World} {T G : Nat → Prop} {g hand q gt id d : Nat} {root : Int} {pre : ByteArray} {ids : List Nat} {ct : Nat → List UInt8} {k v : List UInt8} {XA YA : Option Addr} {xn xc yn yc : Nat}
theorem blk3 {w : World} {g : Nat} {t : TypeId} {a b c : Value} (h : Blk w g t #[a, b, c]) : w.cell? ⟨g, 0, none⟩ = some a ∧ w.cell? ⟨g, 1, none⟩ = some b ∧ w.cell? ⟨g, 2, none⟩ = some c := ⟨h.cell 0, h.cell 1, h.cell 2⟩
set_option maxHeartbeats 16000000 in
theorem tPutL {l : List KV} (hS : TS w T g hand pre q ids ct) (hb : Blk w gt 121 #[.pointer (some ⟨g, 0, none⟩), .int .i64 root]) (hgt : ¬ T gt) (hi : id ∈ ids) (hq : q + 3 ≤ 900000) (hid : ids.length < 65536) (hd : d ≤ 64) (hx : RdB w G (.slice XA xn xc) k) (hy : RdB w G (.slice YA yn yc) v) (hG : ∀ b, G b → ¬ T b) (hk64 : k.length ≤ 64) (hv128 : v.length ≤ 128) (hct : ct id = pageKV l) (hil : id ≤ 65535) (hg : GoodKV l) (hs : sizeKV l ≤ 512) :
    Calls Tryz.prog 90 #[.pointer (some ⟨gt, 0, none⟩), .int .i64 (id : Int), .int .i64 (d : Int), .agg #[.slice XA xn xc, .slice YA yn yc, .bool false]] w (PutP w T g hand pre q ids ct [id] 0 id (kvPut k v l)) := by
  unfold PutP
  have hr := Blk.new w 86 #[.slice XA xn xc, .slice YA yn yc, .bool false]
  have hcr := (Chg.refl Non w).alloc (.cells #[.slice XA xn xc, .slice YA yn yc, .bool false] 86)
  have hnr := sizeAl' w (.cells #[.slice XA xn xc, .slice YA yn yc, .bool false] 86)
  have hTl := hS.lt
  go_enter Tryz.func90, Tryz.ntmps90
  go_upto_region 1 with fail
  obtain ⟨N, hN⟩ : ∃ N, N = w.heap.size := ⟨_, rfl⟩
  have hS1 := hS.c0 hcr
  have hb1 := hb.c0 hcr
  have hx1 := (hx.c0 hcr).lt
  have hy1 := (hy.c0 hcr).lt
  rw [← hN] at hr hnr ⊢
  have HN := hide (And.intro hN hnr)
  clear hS hb hN hnr
  generalize World.alloc w _ = w1 at hr hcr hS1 hb1 hx1 hy1 HN ⊢
  have hch := tChildL hS1 hb1 hgt hi (by omega) hct hg hs
  have HR := hide hr
  have HC1 := hide hcr
  have HTL := hide hTl
  have HX1 := hide (And.intro hx1 hy1)
  have HB1 := hide hb1
  clear hr hcr hS1 hb1 hTl hx1 hy1 hx hy
  go_upto_region 2 with (go_at_call 92; refine hch.mono ?_; rintro e w2 ⟨T2, B, KA, kn, kc, VA, vn, vc, NA, nn, nc, rfl, hO⟩)
  have hbb := Blk.new w2 125 #[.bool true, .slice KA kn kc, .slice VA vn vc, .slice NA nn nc]
  have hcB := (Chg.refl Non w2).alloc (.cells #[.bool true, .slice KA kn kc, .slice VA vn vc, .slice NA nn nc] 125)
  have hnB := sizeAl' w2 (.cells #[.bool true, .slice KA kn kc, .slice VA vn vc, .slice NA nn nc] 125)
  have hO3 := (hO.back HC1.out).c0 hcB
  obtain ⟨gb, hgb⟩ : ∃ g, g = w2.heap.size := ⟨_, rfl⟩
  have hnN : N ≠ gb ∧ ¬ T2 gb ∧ w.heap.size ≤ gb ∧ ¬ T N ∧ w1.heap.size ≤ gb := by
    have h1 := HN.out
    have h2 := hO.chg.size
    refine ⟨by omega, fun h => ?_, by omega, fun h => ?_, by omega⟩
    · have := hO.ts.lt gb h; omega
    · have := HTL.out N h; omega
  have hr3 := (HR.out.chg hO.chg hnN.2.2.2.1).c0 hcB
  have hx3 := (HX1.out.1.chg hO.chg fun b hb => hG b hb.1).c0 hcB
  have hy3 := (HX1.out.2.chg hO.chg fun b hb => hG b hb.1).c0 hcB
  have hb3 := (HB1.out.chg hO.chg hgt).c0 hcB
  have hgt2 : ¬ T2 gt := fun h => by
    rcases hO.sub gt h with h | h
    · exact hgt h
    · have := HB1.out.lt; omega
  have hGT : gt ≠ gb := fun e => by have := HB1.out.lt; have := hO.chg.size; omega
  have hkb := (hO.k.c0 hcB).mono (F' := fun b => B ≤ b ∧ b ≠ gb) fun b hb => ⟨hb.1, by omega⟩
  have hvb := (hO.v.c0 hcB).mono (F' := fun b => B ≤ b ∧ b ≠ gb) fun b hb => ⟨hb.1, by omega⟩
  have hnb := (hO.n.c0 hcB).mono (F' := fun b => B ≤ b ∧ b ≠ gb) fun b hb => ⟨hb.1, by omega⟩
  rw [← hgb] at hbb hnB ⊢
  have hlo9 : ∀ b, T2 b → b < B := hO.low
  generalize World.alloc w2 _ = w3 at hbb hcB hO3 hr3 hx3 hy3 hb3 hkb hvb hnb hnB ⊢
  have hgb3 : gb < w3.heap.size := by omega
  have hlen : l.length ≤ 200 := by have := len_le_size l; omega
  have hfi := lfFind (lf := true) (VA := VA) (vn := vn) (vc := vc) (NA := NA) (nn := nn) (nc := nc) hkb hx3 (by have h := hg.upL; unfold UpL at h; unfold ksL; exact List.pairwise_map.2 h) (by rw [ksL_length]; omega)
  have hlo : ∀ b, T2 b → b < B := hlo9
  have hsub := hO3.sub
  have hO9 : TS w3 T2 g hand pre (q + 1) ids ct ∧ Blk w3 gt 121 #[.pointer (some ⟨g, 0, none⟩), .int .i64 root] ∧ Chg T w w3 := ⟨hO3.ts, hb3, hO3.chg⟩
  have d1 : decide (64 < (d : Int)) = false := decide_eq_false (by omega)
  have d2 : decide ((d : Int) > 64) = false := decide_eq_false (by omega)
  obtain ⟨r0, r1, r2⟩ := blk3 hr3
  obtain ⟨⟨b0, b1, b2, b3⟩, f0, f1, f2, f3⟩ := blk4 hbb
  have HBB := hide hbb
  have HR3 := hide hr3
  have HX3 := hide (And.intro hx3 hy3)
  have HN3 := hide (And.intro hkb (And.intro hvb hnb))
  have HO9 := hide hO9
  have HNN := hide hnN
  have HLT := hide hO9.1.lt
  clear hch hO hO3 hcB hbb hr3 hx3 hy3 hkb hvb hnb hO9 hgb hlo9 hb3 HB1 HX1 HR HC1 hnN
  go_wp2_with fail
  refine hfi.mono ?_
  rintro e w4 ⟨i, ok, rfl, hf, hc4⟩
  have hgoal := hf.put (v := v) hg.upL
  have hg' := kvPut_good (k := k) (v := v) hg hk64 hv128
  have hs' : sizeKV (kvPut k v l) ≤ 707 := by have := kvPut_size hk64 hv128 l; omega
  have hfl := hf.le
  rw [ksL_length] at hfl
  have hfo := hf.ok
  obtain ⟨l', hl'⟩ : ∃ l', l' = kvPut k v l := ⟨_, rfl⟩
  rw [← hl'] at hgoal hg' hs'
  have HLq := hide hl'
  have n34 := hc4.size
  cases ok with
  | false =>
    have hlp : insL l i (k, v) = l' := hgoal
    have ho5 : TS w4 T2 g hand pre (q + 1) ids ct ∧ Blk w4 gt 121 #[.pointer (some ⟨g, 0, none⟩), .int .i64 root] ∧ Chg T w w4 ∧ True := ⟨HO9.out.1.c0 hc4, HO9.out.2.1.c0 hc4, HO9.out.2.2.trans0 hc4, trivial⟩
    have hk5 := HN3.out.1.c0 hc4
    have hv5 := HN3.out.2.1.c0 hc4
    have hn5 := HN3.out.2.2.c0 hc4
    have hx5 := HX3.out.1.c0 hc4
    have hy5 := HX3.out.2.c0 hc4
    have hr5 := HR3.out.c0 hc4
    have hbb5 := HBB.out.c0 hc4
    have hi5 : i ≤ (ksL l).length := by rw [ksL_length]; exact hfl
    have hel5 := hg.big
    have hsub : ∀ b, T2 b → T b ∨ (w.heap.size ≤ b ∧ b < w4.heap.size) := fun b hb => (hsub b hb).imp_right fun h => ⟨h.1, by omega⟩
    clear hf hfo hgoal hfi b0 b1 b2 b3 f0 f1 f2 f3 r0 r1 r2 hc4 HBB HR3 HX3 HN3 HO9 hl'
    have hwi := lfWith (KA := KA) (kn := kn) (kc := kc) (VA := VA) (vn := vn) (vc := vc) (NA := NA) (nn := nn) (nc := nc) hk5 hv5 hn5 hx5 hy5 hi5 (by rw [vsL_length]; rw [ksL_length] at hi5; exact hi5) (by rw [ksL_length]; omega) (by rw [vsL_length]; omega) (by show 0 ≤ 10000; omega) (by omega) (by omega) hel5
    rw [← ksL_ins i (k, v), ← vsL_ins i (k, v), hlp] at hwi
    have HO5 := hide ho5
    obtain ⟨r0, r1, r2⟩ := blk3 hr5
    obtain ⟨⟨b0, b1, b2, b3⟩, _⟩ := blk4 hbb5
    clear hk5 hv5 hn5 hx5 hy5 hi5 hel5 ho5 hr5 hbb5 hlp
    go_wp2_with fail
    refine hwi.mono ?_
    rintro e w6 ⟨A1, m1, k1, A2, m2, k2, A3, m3, k3, rfl, hT6, hc6⟩
    have ho6 := HO5.out
    have hnT6 : ∀ b, (B ≤ b ∨ w3.heap.size ≤ b) → ¬ T2 b := fun b hb h => by
      rcases hb with hb | hb
      · have := hlo b h; omega
      · have := HLT.out b h; omega
    have hst := tStoreL (F := fun b => ¬ T2 b) (ho6.1.c0 hc6) (ho6.2.1.c0 hc6) hgt2 hi (by omega) hid (hT6.rdK.mono fun b hb => hnT6 b (by rcases hb.1 with (h | h) | h; exact .inl h.1.1; exact .inr (by omega); exact .inr (by omega))) (hT6.rdV.mono fun b hb => hnT6 b (by rcases hb.1 with (h | h) | h; exact .inl h.1.1; exact .inr (by omega); exact .inr (by omega))) (hT6.rdI.mono fun b hb => hnT6 b (by rcases hb.1 with (h | h) | h; exact .inl h.1.1; exact .inr (by omega); exact .inr (by omega))) (fun b hb => hb) hg' hs'
    have HC6 := hide hc6
    have HO6 := hide ho6
    clear hwi b0 b1 b2 b3 r0 r1 r2 hT6 hc6 ho6 HO5
    go_wp2_with (go_at_call 130; refine hst.mono ?_; rintro e w7 (⟨rfl, hsz7, hS7, hc7⟩ | ⟨T7, j, o, ids7, kv, key, hj1, hj2, hz1, hz2, hke, rfl, hO7⟩))
    · have n6 := HC6.out.size
      have n7 := hc7.size
      have n5 := HO6.out.2.2.1.size
      clear hst
      go_ret3
      rw [← HLq.out]
      obtain ⟨U, hTR⟩ := putL_one (ct := ct) hi hil hg' hsz7
      refine ⟨_, ids, _, hS7.le_q (by omega), fun b hb => ?_, (HO6.out.2.2.1.trans0 HC6.out).trans hc7 fun b hb h => (hsub b h).elim (fun x => x) fun h9 => by omega, by omega, fun j hj => hj, .inl ⟨rfl, [id], U, hTR⟩⟩
      rcases hb with h | h
      · rcases hsub b h with h | h
        · exact .inl h
        · exact .inr ⟨h.1, by omega⟩
      · exact .inr (by omega)
    · obtain ⟨KA7, kn7, kc7, rfl⟩ : ∃ A n c, kv = .slice A n c := by obtain ⟨A, c, h, _, _⟩ := hO7.key.shape; exact ⟨A, _, c, h⟩
      have n6 := HC6.out.size
      have n7 := hO7.chg.size
      have n5 := HO6.out.2.2.1.size
      clear hst
      go_ret3
      rw [← HLq.out]
      obtain ⟨U, t1, t2, u1, u2, u3, u4, u5⟩ := putL_two (ct := ct) hi hil hO7.fresh hO7.lim hO7.mem hg' hj1 hj2 hz1 hz2 hke
      refine ⟨T7, ids7, _, hO7.ts.le_q (by omega), fun b hb => ?_, (HO6.out.2.2.1.trans0 HC6.out).trans hO7.chg fun b hb h => (hsub b h).elim (fun x => x) fun h9 => by omega, by have := hO7.len; omega, fun j hj => (hO7.mem j).2 (.inr hj), .inr ⟨o, [id], [o], l'.take j, l'.drop j, KA7, kn7, kc7, key, rfl, U, t1, t2, List.take_append_drop j l', u1, u2, u3, u4, u5, hO7.key.mono fun b hb => ⟨by omega, hb.2⟩⟩⟩
      have hb := hO7.sub b hb
      rcases hb with h | h
      · rcases hsub b h with h | h
        · exact .inl h
        · exact .inr ⟨h.1, by omega⟩
      · exact .inr (by omega)
  | true =>
    have hil9 : i < l.length := by
      obtain ⟨x, h1, _⟩ := hfo.1 rfl
      have := (List.getElem?_eq_some_iff.1 h1).1
      rwa [ksL_length] at this
    have hlp : insL (rmL l i true) i (k, v) = l' := hgoal
    have hwo := lfWithout (i := i) (KA := KA) (kn := kn) (kc := kc) (VA := VA) (vn := vn) (vc := vc) (NA := NA) (nn := nn) (nc := nc) (HN3.out.1.c0 hc4) (HN3.out.2.1.c0 hc4) (HN3.out.2.2.c0 hc4) (by rw [ksL_length]; exact hil9) (by rw [vsL_length]; exact hil9) (by rw [ksL_length]; omega) (by rw [vsL_length]; omega) (by show 0 ≤ 10000; omega) hg.big
    rw [← ksL_rm i, ← vsL_rm i] at hwo
    have hbb4 := HBB.out.c0 hc4
    obtain ⟨⟨c0, c1, c2, c3⟩, _⟩ := blk4 hbb4
    have HBB4 := hide hbb4
    have HC4 := hide hc4
    clear hf hfo hgoal hfi b0 b1 b2 b3 f0 f1 f2 f3 r0 r1 r2 hc4 hbb4 HBB hl'
    go_upto_region 10 with (go_at_call 126; refine hwo.mono ?_; rintro e w5 ⟨B1, m1, k1, B2, m2, k2, B3, m3, k3, rfl, hT5, hc5⟩; have hbb5 := HBB4.out.c0 hc5; obtain ⟨_, f0, f1, f2, f3⟩ := blk4 hbb5)
    obtain ⟨hr8, hc8⟩ := put4 hbb5 (.bool true) (.slice B1 m1 k1) (.slice B2 m2 k2) (.slice B3 m3 k3)
    have n45 := hc5.size
    have hnn := HNN.out
    have hc4 := HC4.out
    have FS : ∀ b, ((((B ≤ b ∧ b ≠ gb) ∧ b < w4.heap.size ∨ w4.heap.size ≤ b) ∨ w4.heap.size ≤ b) ∧ b < w5.heap.size) → (B ≤ b ∨ w4.heap.size ≤ b) ∧ b ≠ gb := fun b hb => by
      rcases hb.1 with (h | h) | h
      · exact ⟨.inl h.1.1, h.1.2⟩
      · exact ⟨.inr h, by omega⟩
      · exact ⟨.inr h, by omega⟩
    have ho5 : TS _ T2 g hand pre (q + 1) ids ct ∧ Blk _ gt 121 #[.pointer (some ⟨g, 0, none⟩), .int .i64 root] ∧ Chg T w _ ∧ True := ⟨((HO9.out.1.c0 hc4).c0 hc5).chg hc8 fun b hb e => hnn.2.1 (by have e : b = gb := e; rw [← e]; exact hb), ((HO9.out.2.1.c0 hc4).c0 hc5).chg hc8 hGT, ((HO9.out.2.2.trans0 hc4).trans0 hc5).trans hc8 fun b hb e => by have e : b = gb := e; omega, trivial⟩
    have hk5 := (hT5.rdK.mono FS).chg hc8 fun b hb e => hb.2 e
    have hv5 := (hT5.rdV.mono FS).chg hc8 fun b hb e => hb.2 e
    have hn5 := (hT5.rdI.mono FS).chg hc8 fun b hb e => hb.2 e
    have hx5 := ((HX3.out.1.c0 hc4).c0 hc5).chg hc8 fun b hb e => by have e : b = gb := e; omega
    have hy5 := ((HX3.out.2.c0 hc4).c0 hc5).chg hc8 fun b hb e => by have e : b = gb := e; omega
    have hr5 := ((HR3.out.c0 hc4).c0 hc5).chg hc8 hnn.1
    have hbb5' := hr8
    have n8 := hc8.size
    clear hwo c0 c1 c2 c3 f0 f1 f2 f3 hbb5 hc5 hc4 hr8 hc8 HBB4 HC4 HR3 HX3 HN3 HO9 FS hT5 hnn
    generalize World.setCell _ _ _ = w5b at ho5 hk5 hv5 hn5 hx5 hy5 hr5 hbb5' n8 ⊢
    have hbb5 := hbb5'
    clear hbb5'
    have hi5 : i ≤ (ksL (rmL l i true)).length := by rw [ksL_rm, List.length_append, List.length_take, List.length_drop, ksL_length]; omega
    have hlen5 : (rmL l i true).length ≤ 200 := by unfold rmL; rw [if_pos rfl, List.length_append, List.length_take, List.length_drop]; omega
    have hlen := hlen5
    have hel5 : (∀ x ∈ ksL (rmL l i true), x.length ≤ 1000000) ∧ ∀ x ∈ vsL (rmL l i true), x.length ≤ 1000000 := ⟨fun x hx => hg.big.1 x (by rw [ksL_rm] at hx; rcases List.mem_append.1 hx with h | h; exact List.mem_of_mem_take h; exact List.mem_of_mem_drop h), fun x hx => hg.big.2 x (by rw [vsL_rm] at hx; rcases List.mem_append.1 hx with h | h; exact List.mem_of_mem_take h; exact List.mem_of_mem_drop h)⟩
    have hsub : ∀ b, T2 b → T b ∨ (w.heap.size ≤ b ∧ b < w5b.heap.size) := fun b hb => (hsub b hb).imp_right fun h => ⟨h.1, by omega⟩
    have HN45 := hide (show w4.heap.size ≤ w5b.heap.size by omega)
    clear n45 n8 hlen5
    have hwi := lfWith (KA := B1) (kn := m1) (kc := k1) (VA := B2) (vn := m2) (vc := k2) (NA := B3) (nn := m3) (nc := k3) hk5 hv5 hn5 hx5 hy5 hi5 (by rw [vsL_length]; rw [ksL_length] at hi5; exact hi5) (by rw [ksL_length]; omega) (by rw [vsL_length]; omega) (by show 0 ≤ 10000; omega) (by omega) (by omega) hel5
    rw [← ksL_ins i (k, v), ← vsL_ins i (k, v), hlp] at hwi
    have HO5 := hide ho5
    obtain ⟨r0, r1, r2⟩ := blk3 hr5
    obtain ⟨⟨b0, b1, b2, b3⟩, _⟩ := blk4 hbb5
    clear hk5 hv5 hn5 hx5 hy5 hi5 hel5 ho5 hr5 hbb5 hlp
    go_wp2_with fail
    refine hwi.mono ?_
    rintro e w6 ⟨A1, m1, k1, A2, m2, k2, A3, m3, k3, rfl, hT6, hc6⟩
    have ho6 := HO5.out
    have hnT6 : ∀ b, (B ≤ b ∨ w3.heap.size ≤ b) → ¬ T2 b := fun b hb h => by
      rcases hb with hb | hb
      · have := hlo b h; omega
      · have := HLT.out b h; omega
    have hst := tStoreL (F := fun b => ¬ T2 b) (ho6.1.c0 hc6) (ho6.2.1.c0 hc6) hgt2 hi (by omega) hid (hT6.rdK.mono fun b hb => hnT6 b (by have h9 := HN45.out; rcases hb.1 with (h | h) | h; exact h.1.1.elim .inl (fun h => .inr (by omega)); exact .inr (by omega); exact .inr (by omega))) (hT6.rdV.mono fun b hb => hnT6 b (by have h9 := HN45.out; rcases hb.1 with (h | h) | h; exact h.1.1.elim .inl (fun h => .inr (by omega)); exact .inr (by omega); exact .inr (by omega))) (hT6.rdI.mono fun b hb => hnT6 b (by have h9 := HN45.out; rcases hb.1 with (h | h) | h; exact h.1.1.elim .inl (fun h => .inr (by omega)); exact .inr (by omega); exact .inr (by omega))) (fun b hb => hb) hg' hs'
    have HC6 := hide hc6
    have HO6 := hide ho6
    clear hwi b0 b1 b2 b3 r0 r1 r2 hT6 hc6 ho6 HO5
    go_wp2_with (go_at_call 130; refine hst.mono ?_; rintro e w7 (⟨rfl, hsz7, hS7, hc7⟩ | ⟨T7, j, o, ids7, kv, key, hj1, hj2, hz1, hz2, hke, rfl, hO7⟩))
    · have n6 := HC6.out.size
      have n7 := hc7.size
      have n5 := HO6.out.2.2.1.size
      clear hst
      go_ret3
      rw [← HLq.out]
      obtain ⟨U, hTR⟩ := putL_one (ct := ct) hi hil hg' hsz7
      refine ⟨_, ids, _, hS7.le_q (by omega), fun b hb => ?_, (HO6.out.2.2.1.trans0 HC6.out).trans hc7 fun b hb h => (hsub b h).elim (fun x => x) fun h9 => by omega, by omega, fun j hj => hj, .inl ⟨rfl, [id], U, hTR⟩⟩
      rcases hb with h | h
      · rcases hsub b h with h | h
        · exact .inl h
        · exact .inr ⟨h.1, by omega⟩
      · exact .inr (by omega)
    · obtain ⟨KA7, kn7, kc7, rfl⟩ : ∃ A n c, kv = .slice A n c := by obtain ⟨A, c, h, _, _⟩ := hO7.key.shape; exact ⟨A, _, c, h⟩
      have n6 := HC6.out.size
      have n7 := hO7.chg.size
      have n5 := HO6.out.2.2.1.size
      clear hst
      go_ret3
      rw [← HLq.out]
      obtain ⟨U, t1, t2, u1, u2, u3, u4, u5⟩ := putL_two (ct := ct) hi hil hO7.fresh hO7.lim hO7.mem hg' hj1 hj2 hz1 hz2 hke
      refine ⟨T7, ids7, _, hO7.ts.le_q (by omega), fun b hb => ?_, (HO6.out.2.2.1.trans0 HC6.out).trans hO7.chg fun b hb h => (hsub b h).elim (fun x => x) fun h9 => by omega, by have := hO7.len; omega, fun j hj => (hO7.mem j).2 (.inr hj), .inr ⟨o, [id], [o], l'.take j, l'.drop j, KA7, kn7, kc7, key, rfl, U, t1, t2, List.take_append_drop j l', u1, u2, u3, u4, u5, hO7.key.mono fun b hb => ⟨by omega, hb.2⟩⟩⟩
      have hb := hO7.sub b hb
      rcases hb with h | h
      · rcases hsub b h with h | h
        · exact .inl h
        · exact .inr ⟨h.1, by omega⟩
      · exact .inr (by omega)
end
end Go.Proofs.YtliimeoblffigaaGreat

