/- rpc's wire, where it reads: numbers and texts. -/
import Derived.Test.YtncchbcoldgpbaaRvP
import Derived.Recover
import Derived.Defers
import Derived.WalkLawsBesides
import Derived.WalkSmall
import Derived.Test.YtncchbcoldgpbaaWiM
open List (getElem_toArray getElem_cons_succ getElem_cons_zero setIfInBounds_toArray set_cons_zero set_cons_succ)
namespace Go.Proofs.Ytncchbcoldgpbaa
open Go.RowKit
set_option linter.unusedVariables false
set_option linter.unusedSimpArgs false

/-- no block in common -/
def Apt (u v : Value) : Prop := ∀ k, u.ownBlock = some k → v.ownBlock ≠ some k
/-- values that own their bytes, no two in one block -/
def OwnQs (w : World) (base : Nat) (ps : List (Value × List UInt8)) : Prop := (∀ p ∈ ps, OwnB w base p.1 p.2) ∧ ps.Pairwise fun p q => Apt p.1 q.1
section
variable {w w' : World} {base : Nat} {ps qs : List (Value × List UInt8)} {S : Nat → Prop}
theorem OwnQs.nil_ (w : World) (base : Nat) : OwnQs w base [] := ⟨fun p h => by simp at h, .nil⟩
theorem OwnQs.chg (h : OwnQs w base ps) (hc : Chg S w w') (hS : ∀ k, base ≤ k → k < w.heap.size → ¬ S k) : OwnQs w' base ps :=
  ⟨fun p hp => (h.1 p hp).chg hc fun k hk => hS k ((h.1 p hp).lt k hk).1 ((h.1 p hp).lt k hk).2, h.2⟩
theorem OwnQs.c0 (h : OwnQs w base ps) (hc : Chg Non w w') : OwnQs w' base ps := h.chg hc fun _ _ _ h => h
theorem OwnQs.low (h : OwnQs w base ps) {b : Nat} (hb : b ≤ base) : OwnQs w b ps := ⟨fun p hp => (h.1 p hp).low hb, h.2⟩
theorem OwnQs.app {b1 b2 m : Nat} (h : OwnQs w b1 ps) (h' : OwnQs w b2 qs) (hlt : ∀ p ∈ ps, ∀ k, p.1.ownBlock = some k → k < m) (hge : m ≤ b2) (hb : base ≤ b1) (hb2 : base ≤ b2) : OwnQs w base (ps ++ qs) := by
  refine ⟨fun p hp => ?_, List.pairwise_append.2 ⟨h.2, h'.2, fun p hp q hq k hk e => ?_⟩⟩
  · rcases List.mem_append.1 hp with hp | hp
    · exact (h.1 p hp).low hb
    · exact (h'.1 p hp).low hb2
  · have h1 := hlt p hp k hk
    have h2 := ((h'.1 q hq).lt k e).1
    omega
theorem OwnQs.lt (h : OwnQs w base ps) : ∀ p ∈ ps, ∀ k, p.1.ownBlock = some k → k < w.heap.size := fun p hp k hk => ((h.1 p hp).lt k hk).2
theorem OwnQs.one {u : Value} {t : List UInt8} (h : OwnB w base u t) : OwnQs w base [(u, t)] := ⟨fun p hp => by rw [List.mem_singleton] at hp; subst hp; exact h, List.pairwise_singleton _ _⟩
/-- some that are newer -/
theorem OwnQs.more {w1 : World} {m : Nat} (h : OwnQs w base ps) (hc : Chg S w w1) (hS : ∀ k, base ≤ k → k < w.heap.size → ¬ S k) (hq : OwnQs w1 m qs) (hm : w.heap.size ≤ m) (hb : base ≤ w.heap.size) : OwnQs w1 base (ps ++ qs) :=
  (h.chg hc hS).app hq h.lt hm (Nat.le_refl _) (Nat.le_trans hb hm)
/-- one that is newer -/
theorem OwnQs.add {w1 : World} (h : OwnQs w base ps) {u : Value} {t : List UInt8} (hc : Chg S w w1) (hS : ∀ k, base ≤ k → k < w.heap.size → ¬ S k) (hu : OwnB w1 w.heap.size u t) (hb : base ≤ w.heap.size) : OwnQs w1 base (ps ++ [(u, t)]) :=
  (h.chg hc hS).app (OwnQs.one hu) h.lt (Nat.le_refl _) (Nat.le_refl _) hb
end

/-- the block x is a wire that reads l by the reader g, which stands at a with the error e -/
structure WRd (w : World) (F : Nat → Prop) (x g : Nat) (l : List UInt8) (a : Nat) (e : Int) : Prop where
  blk : Blk w x 101 #[.slice none 0 0, .pointer (some ⟨g, 0, none⟩)]
  rd : Rdr w F g l a e
  ne : x ≠ g
  lim : l.length ≤ 1000000000
  low : ∀ k, F k → k < g
section
variable {w w' : World} {F S : Nat → Prop} {x g a : Nat} {e : Int} {l : List UInt8}
theorem WRd.chg (h : WRd w F x g l a e) (hc : Chg S w w') (hx : ¬ S x) (hg : ¬ S g) (hF : ∀ k, F k → k < w.heap.size → ¬ S k) : WRd w' F x g l a e := ⟨h.blk.chg hc hx, h.rd.chg hc hg hF, h.ne, h.lim, h.low⟩
theorem WRd.c0 (h : WRd w F x g l a e) (hc : Chg Non w w') : WRd w' F x g l a e := h.chg hc (fun h => h) (fun h => h) fun _ _ _ h => h
theorem WRd.al (h : WRd w F x g l a e) (o : Obj) : WRd (w.alloc o) F x g l a e := h.c0 ((Chg.refl Non w).alloc o)
theorem WRd.k1 (h : WRd w F x g l a e) : w.cell? ⟨x, 1, none⟩ = some (.pointer (some ⟨g, 0, none⟩)) := by
  have := h.blk.cell 1
  simpa using this
/-- behind a step of the reader -/
theorem WRd.step {a' : Nat} {e' : Int} (h : WRd w F x g l a e) (hr : Rdr w' F g l a' e') (hc : Chg (fun k => k = g) w w') : WRd w' F x g l a' e' := ⟨h.blk.chg hc h.ne, hr, h.ne, h.lim, h.low⟩
end
/-- a block that no wire and no reader holds -/
def Free (F : Nat → Prop) (x g b : Nat) : Prop := ¬ F b ∧ b ≠ x ∧ b ≠ g
theorem WRd.free {w : World} {F : Nat → Prop} {x g a b : Nat} {e : Int} {l : List UInt8} (h : WRd w F x g l a e) (hb : w.heap.size ≤ b) : Free F x g b := by
  have h1 := h.blk.lt; have h2 := h.rd.lt
  exact ⟨fun hF => by have := h.low b hF; omega, by omega, by omega⟩
theorem WRd.set {w : World} {F : Nat → Prop} {x g a b i : Nat} {e : Int} {l : List UInt8} (h : WRd w F x g l a e) (hf : Free F x g b) (v : Value) : WRd (w.setCell ⟨b, i, none⟩ v) F x g l a e :=
  h.chg ((Chg.refl (fun k => k = b) w).setCell (p := ⟨b, i, none⟩) (fun _ => rfl) v) (fun e => hf.2.1 e.symm) (fun e => hf.2.2 e.symm) fun k hk _ e => hf.1 (e ▸ hk)

/-- the places os of an array turned -/
def putL : Array Value → List Nat → List Value → Array Value
  | vs, o :: os, v :: xs => putL (vs.setIfInBounds o v) os xs
  | vs, _, _ => vs
theorem putL_size : ∀ (os : List Nat) (xs : List Value) (vs : Array Value), (putL vs os xs).size = vs.size
  | [], xs, vs => by cases xs <;> rfl
  | o :: os, [], vs => rfl
  | o :: os, v :: xs, vs => by rw [putL, putL_size os xs, Array.size_setIfInBounds]
theorem putL_snoc : ∀ (os : List Nat) (xs : List Value) (vs : Array Value) (v : Value) (h : xs.length < os.length), putL vs os (xs ++ [v]) = (putL vs os xs).setIfInBounds os[xs.length] v
  | [], xs, vs, v, h => by simp at h
  | o :: os, [], vs, v, h => by cases os <;> rfl
  | o :: os, y :: xs, vs, v, h => by
    rw [List.cons_append, putL, putL, putL_snoc os xs _ v (by simpa using h)]
    rfl
theorem putL_nil (os : List Nat) (vs : Array Value) : putL vs os [] = vs := by cases os <;> rfl

theorem read_two {w wB : World} {F : Nat → Prop} {x g b a a' : Nat} {e e' : Int} {l : List UInt8} {ty : TypeId} {vs : Array Value} (h : WRd w F x g l a e) (hr : Rdr wB F g l a' e') (hc : Chg (fun k => k = g) w wB) (hB : Blk w b ty vs) (hf : Free F x g b) {o : Nat} (ho : o < vs.size) :
    Blk wB b ty vs ∧ (∃ u, wB.cell? ⟨b, o, none⟩ = some u) ∧ wB.frozen? ⟨b, o, none⟩ = false := by
  have hb := hB.chg hc hf.2.2
  exact ⟨hb, ⟨_, (hb.cell o).trans (Array.getElem?_eq_getElem ho)⟩, hb.frozen o⟩
theorem chg_gb {w w1 : World} {g b i : Nat} (h : Chg (fun k => k = g) w w1) (v : Value) : Chg (fun k => k = g ∨ k = b) w (w1.setCell ⟨b, i, none⟩ v) :=
  Chg.setCell (S := fun k => k = g ∨ k = b) (h.mono fun _ _ h => .inl h) (p := ⟨b, i, none⟩) (fun _ => .inr rfl) v

set_option maxHeartbeats 4000000 in
set_option maxRecDepth 100000 in
theorem rvNum {x g a b : Nat} {er : Int} {l : List UInt8} {F G : Nat → Prop} {pv : Value} {os : List Nat} {vs : Array Value} {ty : TypeId} {w : World} (h : WRd w F x g l a er) (hp : RdPt w G pv (os.map fun o => ⟨b, o, none⟩)) (hG : ∀ k, G k → k ≠ g ∧ k ≠ b)
    (hB : Blk w b ty vs) (hf : Free F x g b) (hos : ∀ o ∈ os, o < vs.size) :
    Calls Try.prog 53 #[.pointer (some ⟨x, 0, none⟩), pv] w fun e w' => e = .returned (.tuple #[]) ∧ ∃ (ns : List Nat) (a' : Nat) (e' : Int), WRd w' F x g l a' e' ∧ ns.length = os.length ∧ (∀ n ∈ ns, U64 n) ∧
      Blk w' b ty (putL vs os (ns.map uv)) ∧ Chg (fun k => k = g ∨ k = b) w w' ∧ Took (fun ns : List Nat => ns.length = os.length ∧ ∀ n ∈ ns, U64 n) (fun ns => ns.flatMap numB) l a er ns a' e' := by
  obtain ⟨A, m, c, rfl⟩ := RdPt.sl hp
  have hm : m = os.length := by obtain ⟨_, A', c', e, _⟩ := hp; injection e with e1 e2; rw [e2, List.length_map]
  have hlim : m ≤ 9223372036854775807 := by obtain ⟨_, A', c', e, h1, h2, _⟩ := hp; injection e with e1 e2 e3; unfold maxLen at h2; omega
  have HM := hide hm
  have HO := hide hos
  clear hm hos
  go_enter Try.func53, Try.ntmps53
  go_wp2_with fail
  go_loopw [8] (fun iv wr => ∃ (ns : List Nat) (ac : Nat) (ec : Int), iv = .int .i64 (ns.length : Int) ∧ ns.length ≤ os.length ∧ Hid (∀ n ∈ ns, U64 n) ∧ Hid (WRd wr F x g l ac ec) ∧ Hid (Blk wr b ty (putL vs os (ns.map uv))) ∧ Chg (fun k => k = g ∨ k = b) w wr ∧
    Took (fun xs : List Nat => xs.length = ns.length ∧ ∀ n ∈ xs, U64 n) (fun ns => ns.flatMap numB) l a er ns ac ec) (fun iv _ => os.length - (intOf iv).toNat)
  case atStart => exact ⟨[], a, er, rfl, Nat.zero_le _, hide (fun n hn => by simp at hn), hide h, hide (by rw [List.map_nil, putL_nil]; exact hB), Chg.refl _ _, Took.nil_⟩
  case round =>
    obtain ⟨ns, ac, ec, rfl, hk, HU, HW, HBk, hcw, hT⟩ := hrel
    have hm := HM.out
    obtain ⟨k, hkn⟩ : ∃ k, k = ns.length := ⟨_, rfl⟩
    rw [← hkn] at hk ⊢
    have HKN := hide hkn
    clear hkn
    by_cases hkl : k < os.length
    · have hki : (k : Int) < (m : Int) := by omega
      have h0i : (0 : Int) ≤ (k : Int) := by omega
      have hkp : k < (os.map fun o => (⟨b, o, none⟩ : Addr)).length := by rw [List.length_map]; exact hkl
      obtain ⟨ad, rfl, c1⟩ := RdPt.at_ (RdV.chg hp hcw fun k hk h => by have := hG k hk; omega) hkp
      rw [List.getElem_map] at c1
      obtain ⟨o, ho⟩ : ∃ o, o = os[k] := ⟨_, rfl⟩
      have hoL := HO.out o (by rw [ho]; exact List.getElem_mem hkl)
      have hvz : (putL vs os (ns.map uv)).size = vs.size := putL_size _ _ _
      have hsn : putL vs os ((ns ++ [(numR l ac ec).1]).map uv) = (putL vs os (ns.map uv)).setIfInBounds o (uv (numR l ac ec).1) := by
        rw [List.map_append, List.map_cons, List.map_nil, putL_snoc _ _ _ _ (by rw [List.length_map, ← HKN.out]; exact hkl)]
        congr 1
        rw [ho]
        congr 1
        rw [List.length_map, HKN.out]
      rw [← ho] at c1
      have HSN := hide hsn
      have HK := hide (And.intro hkl (And.intro hm (And.intro hoL hvz)))
      clear ho hsn hoL hvz hkl hkp hk hm
      have k1 := HW.out.k1
      have HR := hide (numR_took l ac ec)
      go_wp2_with (go_at_call 75; refine (rdrNum HW.out.rd).mono ?_; rintro e w1 ⟨rfl, hr1, hc1⟩; obtain ⟨hB1, ⟨u1, y1⟩, y2⟩ := read_two HW.out hr1 hc1 HBk.out hf (o := o) (by have := HK.out; omega))
      have HW1 := hide ((HW.out.step hr1 hc1).set (i := o) hf (.int .u64 ((numR l ac ec).1 : Int)))
      have HB2 := hide (show Blk (w1.setCell ⟨b, o, none⟩ (.int .u64 ((numR l ac ec).1 : Int))) b ty (putL vs os ((ns ++ [(numR l ac ec).1]).map uv)) by rw [HSN.out]; exact hB1.set_ o _)
      have hcc := hcw.trans (chg_gb (b := b) (i := o) hc1 (.int .u64 ((numR l ac ec).1 : Int))) fun _ _ h => h
      have HT := hide (hT.snoc HR.out)
      clear hr1 hc1 hB1 y1 y2 HW HBk hT
      go_roundw
      case rel => exact ⟨ns ++ [(numR l ac ec).1], _, _, by rw [List.length_append, ← HKN.out]; go_num, by have := HK.out.1; rw [List.length_append, ← HKN.out]; exact this, hide (fun n hn => by
        rcases List.mem_append.1 hn with hn | hn
        · exact HU.out n hn
        · rw [List.mem_singleton] at hn; subst hn; exact numR_lt _ _ _), HW1, HB2, hcc, by rw [List.length_append]; exact HT.out⟩
      case measure => (have h := HK.out.1; simp [intOf]; omega)
    · have hge : ¬ ((k : Int) < (m : Int)) := by omega
      have HKE := hide (show ns.length = os.length by have := HKN.out; omega)
      clear hm hkl hk
      go_wp2_with fail
      refine bodyPost_end (results_none rfl _ _ _) rfl ⟨rfl, ns, ac, ec, HW.out, HKE.out, HU.out, HBk.out, hcw, ?_⟩
      rw [← HKE.out]; exact hT
theorem zip_len {ps : List (Value × List UInt8)} {n : Nat} (h : ps.length = n) : (ps.map (·.1)).length = n := by rw [List.length_map]; exact h

set_option maxHeartbeats 4000000 in
set_option maxRecDepth 100000 in
theorem rvData {x g a b : Nat} {er : Int} {l : List UInt8} {F G : Nat → Prop} {pv : Value} {os : List Nat} {vs : Array Value} {ty : TypeId} {w : World} (h : WRd w F x g l a er) (hp : RdPt w G pv (os.map fun o => ⟨b, o, none⟩)) (hG : ∀ k, G k → k ≠ g ∧ k ≠ b)
    (hB : Blk w b ty vs) (hf : Free F x g b) (hos : ∀ o ∈ os, o < vs.size) :
    Calls Try.prog 60 #[.pointer (some ⟨x, 0, none⟩), pv] w fun e w' => e = .returned (.tuple #[]) ∧ ∃ (ps : List (Value × List UInt8)) (a' : Nat) (e' : Int), WRd w' F x g l a' e' ∧ ps.length = os.length ∧ OwnQs w' w.heap.size ps ∧
      Blk w' b ty (putL vs os (ps.map (·.1))) ∧ Chg (fun k => k = g ∨ k = b) w w' ∧ Took (fun ts : List (List UInt8) => ts.length = os.length ∧ ∀ t ∈ ts, T64 t) (fun ts => ts.flatMap partB) l a er (ps.map (·.2)) a' e' := by
  obtain ⟨A, m, c, rfl⟩ := RdPt.sl hp
  have hm : m = os.length := by obtain ⟨_, A', c', e, _⟩ := hp; injection e with e1 e2; rw [e2, List.length_map]
  have hlim : m ≤ 9223372036854775807 := by obtain ⟨_, A', c', e, h1, h2, _⟩ := hp; injection e with e1 e2 e3; unfold maxLen at h2; omega
  have HM := hide hm
  have HO := hide hos
  have hgl := h.rd.lt
  have hbl := hB.lt
  clear hm hos
  go_enter Try.func60, Try.ntmps60
  go_wp2_with fail
  go_loopw [8] (fun iv wr => ∃ (ps : List (Value × List UInt8)) (ac : Nat) (ec : Int), iv = .int .i64 (ps.length : Int) ∧ ps.length ≤ os.length ∧ Hid (OwnQs wr w.heap.size ps) ∧ Hid (WRd wr F x g l ac ec) ∧ Hid (Blk wr b ty (putL vs os (ps.map (·.1)))) ∧ Chg (fun k => k = g ∨ k = b) w wr ∧
    Took (fun ts : List (List UInt8) => ts.length = ps.length ∧ ∀ t ∈ ts, T64 t) (fun ts => ts.flatMap partB) l a er (ps.map (·.2)) ac ec) (fun iv _ => os.length - (intOf iv).toNat)
  case atStart => exact ⟨[], a, er, rfl, Nat.zero_le _, hide (OwnQs.nil_ _ _), hide h, hide (by rw [List.map_nil, putL_nil]; exact hB), Chg.refl _ _, Took.nil_⟩
  case round =>
    obtain ⟨ps, ac, ec, rfl, hk, HU, HW, HBk, hcw, hT⟩ := hrel
    have hm := HM.out
    obtain ⟨k, hkn⟩ : ∃ k, k = ps.length := ⟨_, rfl⟩
    rw [← hkn] at hk ⊢
    have HKN := hide hkn
    clear hkn
    by_cases hkl : k < os.length
    · have hki : (k : Int) < (m : Int) := by omega
      have h0i : (0 : Int) ≤ (k : Int) := by omega
      have hkp : k < (os.map fun o => (⟨b, o, none⟩ : Addr)).length := by rw [List.length_map]; exact hkl
      obtain ⟨ad, rfl, c1⟩ := RdPt.at_ (RdV.chg hp hcw fun k hk h => by have := hG k hk; omega) hkp
      rw [List.getElem_map] at c1
      obtain ⟨o, ho⟩ : ∃ o, o = os[k] := ⟨_, rfl⟩
      have hoL := HO.out o (by rw [ho]; exact List.getElem_mem hkl)
      have hvz : (putL vs os (ps.map (·.1))).size = vs.size := putL_size _ _ _
      have hsn : ∀ (u : Value) (t : List UInt8), putL vs os ((ps ++ [(u, t)]).map (·.1)) = (putL vs os (ps.map (·.1))).setIfInBounds o u := by
        intro u t
        rw [List.map_append, List.map_cons, List.map_nil, putL_snoc _ _ _ _ (by rw [List.length_map, ← HKN.out]; exact hkl)]
        congr 1
        rw [ho]
        congr 1
        rw [List.length_map, HKN.out]
      rw [← ho] at c1
      have HSN := hide hsn
      have HK := hide (And.intro hkl (And.intro hm (And.intro hoL hvz)))
      clear ho hsn hoL hvz hkl hkp hk hm
      have k1 := HW.out.k1
      have HR := hide (textR_took l ac ec (by have := HW.out.lim; omega) HW.out.rd.1)
      have hlw : l.length ≤ 140737488355328 := by have := HW.out.lim; omega
      go_wp2_with (go_at_call 79; refine (rdrText HW.out.rd hlw).mono ?_; rintro e w1 ⟨uz, rfl, hu1, hr1, hc1⟩; obtain ⟨U, un, uc, rfl⟩ := hu1.shapeH; obtain ⟨hB1, ⟨u0, y1⟩, y2⟩ := read_two HW.out hr1 hc1 HBk.out hf (o := o) (by have := HK.out; omega))
      have HW1 := hide ((HW.out.step hr1 hc1).set (i := o) hf (.slice U un uc))
      have HB2 := hide (show Blk (w1.setCell ⟨b, o, none⟩ (.slice U un uc)) b ty (putL vs os ((ps ++ [(Value.slice U un uc, (textR l ac ec).1)]).map (·.1))) by rw [HSN.out]; exact hB1.set_ o _)
      have hcg := chg_gb (b := b) (i := o) hc1 (.slice U un uc)
      have hcc := hcw.trans hcg fun _ _ h => h
      have hsz : w1.heap.size = (w1.setCell ⟨b, o, none⟩ (.slice U un uc)).heap.size := by simp [World.setCell]
      have HQ := hide (HU.out.add hcg (fun k h1 h2 h3 => by omega) (hu1.chg ((Chg.refl (fun k => k = b) w1).setCell (p := ⟨b, o, none⟩) (fun _ => rfl) (.slice U un uc)) (fun k hk e => by have := (hu1.lt k hk).1; have := hcw.size; omega)) hcw.size)
      have HT := hide (hT.snoc HR.out)
      clear hr1 hu1 hc1 hB1 y1 y2 HW HBk hT hcg hsz
      go_roundw
      case rel => exact ⟨ps ++ [(Value.slice U un uc, (textR l ac ec).1)], _, _, by rw [List.length_append, ← HKN.out]; go_num, by have := HK.out.1; rw [List.length_append, ← HKN.out]; exact this, HQ, HW1, HB2, hcc, by rw [List.length_append, List.map_append]; exact HT.out⟩
      case measure => (have h := HK.out.1; simp [intOf]; omega)
    · have hge : ¬ ((k : Int) < (m : Int)) := by omega
      have HKE := hide (show ps.length = os.length by have := HKN.out; omega)
      clear hm hkl hk
      go_wp2_with fail
      refine bodyPost_end (results_none rfl _ _ _) rfl ⟨rfl, ps, ac, ec, HW.out, HKE.out, HU.out, HBk.out, hcw, ?_⟩
      rw [← HKE.out]; exact hT
end Go.Proofs.Ytncchbcoldgpbaa

namespace Go.Proofs.Ytncchbcoldgpbaa
open Go.RowKit
set_option linter.unusedVariables false
set_option linter.unusedSimpArgs false

section
variable {α : Type} {D1 : α → Prop} {E1 : α → List UInt8} {l : List UInt8} {a a1 : Nat} {e e1 : Int} {x : α}
theorem Took.single (h : Took (fun xs : List α => xs.length = 1 ∧ ∀ x ∈ xs, D1 x) (fun xs => xs.flatMap E1) l a e [x] a1 e1) : Took D1 E1 l a e x a1 e1 := by
  refine ⟨fun he => ?_, fun he v0 r hd hr => ?_⟩
  · obtain ⟨h1, d, h2⟩ := h.ok he
    exact ⟨h1, d.2 x (by simp), by rw [h2, List.flatMap_cons, List.flatMap_nil, List.append_nil]⟩
  · obtain ⟨h1, h2, h3⟩ := h.det he [v0] r ⟨rfl, fun y hy => by rw [List.mem_singleton] at hy; subst hy; exact hd⟩ (by rw [hr, List.flatMap_cons, List.flatMap_nil, List.append_nil])
    exact ⟨h1, by injection h2, h3⟩
end
def iv (z : Int) : Value := .int .i64 z
theorem putL_int {vs : Array Value} {os : List Nat} {o : Nat} {z : Int} (h : ∀ o ∈ os, ∃ z, vs[o]? = some (.int .i64 z)) (ho : o < vs.size) : ∀ o' ∈ os, ∃ z', (vs.setIfInBounds o (iv z))[o']? = some (.int .i64 z') := by
  intro o' h'
  obtain ⟨z', hz⟩ := h o' h'
  by_cases e : o = o'
  · subst e
    exact ⟨z, by rw [Array.getElem?_setIfInBounds_self_of_lt ho]; rfl⟩
  · exact ⟨z', by rw [Array.getElem?_setIfInBounds_ne e]; exact hz⟩
theorem wrap_I64 (n : Nat) (h : U64 n) : I64 (IntKind.i64.wrap (n : Int)) := by
  unfold I64; unfold U64 at h; rw [IntKind.wrap_i64]; omega

set_option maxHeartbeats 8000000 in
set_option maxRecDepth 100000 in
theorem rvWhole {x g a b : Nat} {er : Int} {l : List UInt8} {F G : Nat → Prop} {pv : Value} {os : List Nat} {vs : Array Value} {ty : TypeId} {w : World} (h : WRd w F x g l a er) (hp : RdPt w G pv (os.map fun o => ⟨b, o, none⟩)) (hG : ∀ k, G k → k ≠ g ∧ k ≠ b)
    (hB : Blk w b ty vs) (hf : Free F x g b) (hos : ∀ o ∈ os, ∃ z, vs[o]? = some (.int .i64 z)) :
    Calls Try.prog 52 #[.pointer (some ⟨x, 0, none⟩), pv] w fun e w' => e = .returned (.tuple #[]) ∧ ∃ (zs : List Int) (a' : Nat) (e' : Int), WRd w' F x g l a' e' ∧ zs.length = os.length ∧ (∀ z ∈ zs, I64 z) ∧
      Blk w' b ty (putL vs os (zs.map iv)) ∧ Chg (fun k => k = g ∨ k = b) w w' ∧ Took (fun zs : List Int => zs.length = os.length ∧ ∀ z ∈ zs, I64 z) (fun zs => zs.flatMap fun z => numB (wz z)) l a er zs a' e' := by
  obtain ⟨A, m, c, rfl⟩ := RdPt.sl hp
  have hm : m = os.length := by obtain ⟨_, A', c', e, _⟩ := hp; injection e with e1 e2; rw [e2, List.length_map]
  have hlim : m ≤ 9223372036854775807 := by obtain ⟨_, A', c', e, h1, h2, _⟩ := hp; injection e with e1 e2 e3; unfold maxLen at h2; omega
  have HM := hide hm
  have hgl := h.rd.lt
  have hbl := hB.lt
  clear hm
  have HOS := hide hos
  clear hos
  go_enter Try.func52, Try.ntmps52
  go_wp2_with fail
  go_loopw [9] (fun jv wr => ∃ (zs : List Int) (ac : Nat) (ec : Int), jv = .int .i64 (zs.length : Int) ∧ zs.length ≤ os.length ∧ Hid (∀ n ∈ zs, I64 n) ∧ Hid (∀ o ∈ os, ∃ z, (putL vs os (zs.map iv))[o]? = some (.int .i64 z)) ∧ Hid (WRd wr F x g l ac ec) ∧ Hid (Blk wr b ty (putL vs os (zs.map iv))) ∧ Chg (fun k => k = g ∨ k = b) w wr ∧
    Took (fun zs' : List Int => zs'.length = zs.length ∧ ∀ z ∈ zs', I64 z) (fun zs => zs.flatMap fun z => numB (wz z)) l a er zs ac ec) (fun jv _ => os.length - (intOf jv).toNat)
  case atStart => exact ⟨[], a, er, rfl, Nat.zero_le _, hide (fun n hn => by simp at hn), hide (by rw [List.map_nil, putL_nil]; exact HOS.out), hide h, hide (by rw [List.map_nil, putL_nil]; exact hB), Chg.refl _ _, Took.nil_⟩
  case round =>
    obtain ⟨zs, ac, ec, rfl, hk, HU, HI, HW, HBk, hcw, hT⟩ := hrel
    have hm := HM.out
    obtain ⟨k, hkn⟩ : ∃ k, k = zs.length := ⟨_, rfl⟩
    rw [← hkn] at hk ⊢
    have HKN := hide hkn
    clear hkn
    by_cases hkl : k < os.length
    · have hki : (k : Int) < (m : Int) := by omega
      have h0i : (0 : Int) ≤ (k : Int) := by omega
      have hkp : k < (os.map fun o => (⟨b, o, none⟩ : Addr)).length := by rw [List.length_map]; exact hkl
      obtain ⟨ad, rfl, c1⟩ := RdPt.at_ (RdV.chg hp hcw fun k hk h => by have := hG k hk; omega) hkp
      rw [List.getElem_map] at c1
      obtain ⟨o, ho⟩ : ∃ o, o = os[k] := ⟨_, rfl⟩
      obtain ⟨z0, hz0⟩ := HI.out o (by rw [ho]; exact List.getElem_mem hkl)
      have hoL : o < (putL vs os (zs.map iv)).size := (Array.getElem?_eq_some_iff.1 hz0).1
      have hsn : ∀ z : Int, putL vs os ((zs ++ [z]).map iv) = (putL vs os (zs.map iv)).setIfInBounds o (iv z) := by
        intro z
        rw [List.map_append, List.map_cons, List.map_nil, putL_snoc _ _ _ _ (by rw [List.length_map, ← HKN.out]; exact hkl)]
        congr 1
        rw [ho]
        congr 1
        rw [List.length_map, HKN.out]
      rw [← ho] at c1
      have ca := (HBk.out.cell o).trans hz0
      have HSN := hide hsn
      have HK := hide (And.intro hkl (And.intro hm hoL))
      clear ho hsn hoL hkl hkp hk hm hz0
      obtain ⟨zu, hzu⟩ : ∃ zu, IntKind.u64.wrap z0 = zu := ⟨_, rfl⟩
      go_upto_region 4 with fail
      clear c1
      have hX := Blk.new wr 22 #[.int .u64 zu]
      have hcA := (Chg.refl Non wr).alloc (.cells #[.int .u64 zu] 22)
      have hfr := HW.out.free (Nat.le_refl _)
      obtain ⟨bu, hbu⟩ : ∃ b, b = wr.heap.size := ⟨_, rfl⟩
      rw [← hbu] at hX hfr ⊢
      generalize World.alloc _ _ = wA at hX hcA ⊢
      have hbb : bu ≠ b := by have := HBk.out.lt; omega
      have HBU := hide hbu
      clear hbu ca hzu
      have HWA := hide (HW.out.c0 hcA)
      have hpt := RdPt.lit wA 135 #[.pointer (some ⟨bu, 0, none⟩)] [⟨bu, 0, none⟩] 1 rfl rfl (by simp [maxLen])
      have hWL := HWA.out.al (.cells #[.pointer (some ⟨bu, 0, none⟩)] 135)
      have hcL := (Chg.refl Non wA).alloc (.cells #[.pointer (some ⟨bu, 0, none⟩)] 135)
      have hXL := hX.c0 hcL
      have hFp : ∀ k, k = wA.heap.size → k ≠ g ∧ k ≠ bu := fun k e => by have := hX.lt; have := HWA.out.rd.lt; omega
      go_upto_region 5 with (go_at_call 53; refine (rvNum (os := [0]) hWL hpt hFp hXL hfr (by simp)).mono ?_; rintro e w2 ⟨rfl, ns, a2, e2, hW2, hn2, hu2, hX2, hc2, hT2⟩)
      obtain ⟨n, rfl⟩ : ∃ n, ns = [n] := List.length_eq_one_iff.1 hn2
      have cu2 : w2.cell? ⟨bu, 0, none⟩ = some (.int .u64 (n : Int)) := (hX2.cell 0).trans rfl
      have hBA := (HBk.out.c0 (hcA.trans0 hcL)).chg hc2 (fun h => by rcases h with h | h; exact hf.2.2 h; exact hbb h.symm)
      have ca2 : ∃ u, w2.cell? ⟨b, o, none⟩ = some u := ⟨_, (hBA.cell o).trans (Array.getElem?_eq_getElem HK.out.2.2)⟩
      obtain ⟨u0, ca2⟩ := ca2
      have cf2 := hBA.frozen o
      obtain ⟨z, hz⟩ : ∃ z, IntKind.i64.wrap (n : Int) = z := ⟨_, rfl⟩
      have hI : I64 z := by rw [← hz]; exact wrap_I64 n (hu2 n (by simp))
      have HT2 := hide (show Took I64 (fun z => numB (wz z)) l ac ec z a2 e2 by rw [← hz]; exact whole_took hT2.single)
      have HW2 := hide (hW2.set (i := o) hf (iv z))
      have HB2 := hide (show Blk (w2.setCell ⟨b, o, none⟩ (iv z)) b ty (putL vs os ((zs ++ [z]).map iv)) by rw [HSN.out]; exact hBA.set_ o _)
      have hcc : Chg (fun k => k = g ∨ k = b) w (w2.setCell ⟨b, o, none⟩ (iv z)) := by
        refine Chg.setCell ?_ (p := ⟨b, o, none⟩) (fun _ => .inr rfl) _
        refine (hcw.trans0 (hcA.trans0 hcL)).trans hc2 fun k hk h => ?_
        rcases h with h | h
        · exact .inl h
        · have := HBU.out; have := hcw.size; omega
      have HI2 := hide (show ∀ o ∈ os, ∃ z', (putL vs os ((zs ++ [z]).map iv))[o]? = some (.int .i64 z') by rw [HSN.out]; exact putL_int HI.out HK.out.2.2)
      have HT := hide (hT.snoc HT2.out)
      have HII := hide hI
      clear hW2 hn2 hu2 hX2 hc2 hT2 HW HBk hcA hcL hXL hWL hX hpt hBA hT HI HWA hI
      go_wp2_with fail
      go_roundw
      case rel => exact ⟨zs ++ [z], _, _, by rw [List.length_append, ← HKN.out]; go_num, by have := HK.out.1; rw [List.length_append, ← HKN.out]; exact this, hide (fun n hn => by
        rcases List.mem_append.1 hn with hn | hn
        · exact HU.out n hn
        · rw [List.mem_singleton] at hn; subst hn; exact HII.out), HI2, HW2, HB2, hcc, by rw [List.length_append]; exact HT.out⟩
      case measure => (have h := HK.out.1; simp [intOf]; omega)
    · have hge : ¬ ((k : Int) < (m : Int)) := by omega
      have HKE := hide (show zs.length = os.length by have := HKN.out; omega)
      clear hm hkl hk
      go_wp2_with fail
      refine bodyPost_end (results_none rfl _ _ _) rfl ⟨rfl, zs, ac, ec, HW.out, HKE.out, HU.out, HBk.out, hcw, ?_⟩
      rw [← HKE.out]; exact hT
end Go.Proofs.Ytncchbcoldgpbaa

namespace Go.Proofs.Ytncchbcoldgpbaa
open Go.RowKit
set_option linter.unusedVariables false
set_option linter.unusedSimpArgs false

theorem rv_lt {b o : Nat} {vs : Array Value} {z : Int} (h : vs[o]? = some (.int .i64 z)) : o < vs.size := (Array.getElem?_eq_some_iff.1 h).1

set_option maxHeartbeats 4000000 in
set_option maxRecDepth 100000 in
theorem rvErrno {x g a b o : Nat} {er z0 : Int} {l : List UInt8} {F : Nat → Prop} {vs : Array Value} {ty : TypeId} {w : World} (h : WRd w F x g l a er) (hB : Blk w b ty vs) (hf : Free F x g b) (ho : vs[o]? = some (.int .i64 z0)) :
    Calls Try.prog 59 #[.pointer (some ⟨x, 0, none⟩), .pointer (some ⟨b, o, none⟩)] w fun e w' => e = .returned (.tuple #[]) ∧ ∃ (z : Int) (a' : Nat) (e' : Int), WRd w' F x g l a' e' ∧ I64 z ∧
      Blk w' b ty (vs.setIfInBounds o (iv z)) ∧ Chg (fun k => k = g ∨ k = b) w w' ∧ Took I64 (fun z => numB (wz z)) l a er z a' e' := by
  have ca := (hB.cell o).trans ho
  go_enter Try.func59, Try.ntmps59
  go_upto_region 1 with fail
  have hX := Blk.new w 3 #[.int .i64 z0]
  have hcA := (Chg.refl Non w).alloc (.cells #[.int .i64 z0] 3)
  have hfr := h.free (Nat.le_refl _)
  have hbl := hB.lt
  obtain ⟨bu, hbu⟩ : ∃ b, b = w.heap.size := ⟨_, rfl⟩
  rw [← hbu] at hX hfr ⊢
  generalize World.alloc _ _ = wA at hX hcA ⊢
  have hbb : bu ≠ b := by omega
  have HBU := hide hbu
  clear hbu ca
  have hpt := RdPt.lit wA 133 #[.pointer (some ⟨bu, 0, none⟩)] [⟨bu, 0, none⟩] 1 rfl rfl (by simp [maxLen])
  have hcL := (Chg.refl Non wA).alloc (.cells #[.pointer (some ⟨bu, 0, none⟩)] 133)
  have hWL := (h.c0 hcA).c0 hcL
  have hXL := hX.c0 hcL
  have hFp : ∀ k, k = wA.heap.size → k ≠ g ∧ k ≠ bu := fun k e => by have := hX.lt; have := (h.c0 hcA).rd.lt; omega
  go_upto_region 2 with (go_at_call 52; refine (rvWhole (os := [0]) hWL hpt hFp hXL hfr (by simp)).mono ?_; rintro e w2 ⟨rfl, ns, a2, e2, hW2, hn2, hu2, hX2, hc2, hT2⟩)
  obtain ⟨z, rfl⟩ : ∃ n, ns = [n] := List.length_eq_one_iff.1 hn2
  have cu2 : w2.cell? ⟨bu, 0, none⟩ = some (.int .i64 z) := (hX2.cell 0).trans rfl
  have hBA := (hB.c0 (hcA.trans0 hcL)).chg hc2 (fun h => by rcases h with h | h; exact hf.2.2 h; exact hbb h.symm)
  have ca2 : w2.cell? ⟨b, o, none⟩ = some (.int .i64 z0) := (hBA.cell o).trans ho
  have cf2 := hBA.frozen o
  have hcc : Chg (fun k => k = g ∨ k = b) w (w2.setCell ⟨b, o, none⟩ (iv z)) := by
    refine Chg.setCell ?_ (p := ⟨b, o, none⟩) (fun _ => .inr rfl) _
    refine (chgX (hcA.trans0 hcL)).trans hc2 fun k hk h => ?_
    rcases h with h | h
    · exact .inl h
    · have := HBU.out; omega
  have HF := hide (And.intro (hW2.set (i := o) hf (iv z)) (And.intro (hu2 z (by simp)) (And.intro (hBA.set_ o (iv z)) (And.intro hcc hT2.single))))
  clear hW2 hn2 hu2 hX2 hc2 hT2 hcA hcL hXL hWL hX hpt hBA ho hcc
  go_wp2_with fail
  refine bodyPost_end (results_none rfl _ _ _) rfl ⟨rfl, z, a2, e2, HF.out⟩

set_option maxHeartbeats 8000000 in
set_option maxRecDepth 100000 in
theorem rvCount {x g a : Nat} {er z0 : Int} {l : List UInt8} {F : Nat → Prop} {w : World} (h : WRd w F x g l a er) :
    Calls Try.prog 78 #[.pointer (some ⟨x, 0, none⟩), .int .i64 z0] w fun e w' =>
      (∃ (n a' : Nat), e = .returned (.int .i64 (n : Int)) ∧ WRd w' F x g l a' 0 ∧ Cnt l a er n a' ∧ Chg (fun k => k = g) w w') ∨
      (∃ er' : Int, er' ≠ 0 ∧ e = .panicked [{ v := .iface 39 (.int .i64 er'), recovered := false }] ∧ NoCnt l a er ∧ Chg (fun k => k = g) w w') := by
  go_enter Try.func78, Try.ntmps78
  go_upto_region 1 with fail
  have hX := Blk.new w 3 #[.int .i64 z0]
  have hcA := (Chg.refl Non w).alloc (.cells #[.int .i64 z0] 3)
  have hfr := h.free (Nat.le_refl _)
  obtain ⟨bu, hbu⟩ : ∃ b, b = w.heap.size := ⟨_, rfl⟩
  rw [← hbu] at hX hfr ⊢
  generalize World.alloc _ _ = wA at hX hcA ⊢
  have HBU := hide hbu
  clear hbu
  have hpt := RdPt.lit wA 133 #[.pointer (some ⟨bu, 0, none⟩)] [⟨bu, 0, none⟩] 1 rfl rfl (by simp [maxLen])
  have hcL := (Chg.refl Non wA).alloc (.cells #[.pointer (some ⟨bu, 0, none⟩)] 133)
  have hWL := (h.c0 hcA).c0 hcL
  have hXL := hX.c0 hcL
  have hFp : ∀ k, k = wA.heap.size → k ≠ g ∧ k ≠ bu := fun k e => by have := hX.lt; have := (h.c0 hcA).rd.lt; omega
  go_upto_region 2 with (go_at_call 52; refine (rvWhole (os := [0]) hWL hpt hFp hXL hfr (by simp)).mono ?_; rintro e w2 ⟨rfl, ns, a2, e2, hW2, hn2, hu2, hX2, hc2, hT2⟩)
  obtain ⟨z, rfl⟩ : ∃ n, ns = [n] := List.length_eq_one_iff.1 hn2
  have cu2 : w2.cell? ⟨bu, 0, none⟩ = some (.int .i64 z) := (hX2.cell 0).trans rfl
  have hcc : Chg (fun k => k = g) w w2 := by
    refine (chgX (hcA.trans0 hcL)).trans hc2 fun k hk h => ?_
    rcases h with h | h
    · exact h
    · have := HBU.out; omega
  have hI := hu2 z (by simp)
  have hT := hT2.single
  have k1 := hW2.k1
  clear hn2 hu2 hX2 hc2 hT2 hcA hcL hXL hWL hX hpt h hFp
  have hN : ∀ n : Nat, n < 9223372036854775808 → wz (n : Int) = n := fun n hn => by unfold wz; omega
  by_cases h0 : e2 = 0
  · subst h0
    obtain ⟨he, _, hd⟩ := hT.ok rfl
    have hlen : (l.drop a2).length = l.length - a2 := List.length_drop
    have ha := hW2.rd.1
    have hlm := hW2.lim
    by_cases h1 : z < 0
    · have hno : NoCnt l a er := by
        intro h0 n r hn hr
        have := (hT.det h0 (n : Int) r ⟨by omega, by omega⟩ (by rw [hN n hn]; exact hr)).2.1
        omega
      have HH := hide (And.intro hno hcc)
      have hd1 : decide (z < 0) = true := decide_eq_true h1
      clear hT hd hcc hno ha hlen
      go_wp2_with (go_at_call 93; refine (rdrErr hW2.rd).mono ?_; rintro e w3 ⟨rfl, rfl⟩)
      go_quiet ((go_at_call 65; exact Calls.quiet_of (rdrLeft (hW2.c0 ((Chg.refl Non _).drewN _)).rd)))
      go_wp2_with fail
      exact ⟨rfl, .inr ⟨5, by decide, rfl, HH.out.1, HH.out.2.drewN _⟩⟩
    · obtain ⟨n, hzn⟩ : ∃ n : Nat, z = (n : Int) := ⟨z.toNat, by omega⟩
      have hn : n < 9223372036854775808 := by unfold I64 at hI; omega
      have hd1 : decide (z < 0) = false := decide_eq_false h1
      obtain ⟨lf, hlf⟩ : ∃ lf : Int, lf = ((l.length - a2 : Nat) : Int) := ⟨_, rfl⟩
      have HL : ∀ q : Nat, Calls Try.prog 65 #[.pointer (some ⟨g, 0, none⟩)] (w2.drewN q) fun e w' => e = .returned (.int .i64 lf) ∧ ∃ k, w' = (w2.drewN q).drewN k := fun q => (rdrLeft (hW2.rd.dn q)).mono fun e w'' ⟨h1, h2⟩ => ⟨by rw [h1, hlf], h2⟩
      rw [hzn, hN n hn] at hd
      by_cases h2 : l.length - a2 < n
      · have hno : NoCnt l a er := by
          intro h0 m r hm hr
          have h3 := hT.det h0 (m : Int) r ⟨by omega, by omega⟩ (by rw [hN m hm]; exact hr)
          rw [← h3.2.2, hlen]
          have := h3.2.1
          omega
        have HH := hide (And.intro hno hcc)
        have hd2 : decide (lf < z) = true := decide_eq_true (by omega)
        clear hT hd hcc hno ha hlen h1 h2 hlf hzn
        go_wp2_with (go_at_call 93; refine (rdrErr hW2.rd).mono ?_; rintro e w3 ⟨rfl, rfl⟩)
        go_quiet ((go_at_call 65; exact Calls.quiet_of (HL _)))
        go_wp2_with fail
        exact ⟨rfl, .inr ⟨5, by decide, rfl, HH.out.1, HH.out.2.drewN _⟩⟩
      · have HH := hide (And.intro (show Cnt l a er n a2 from ⟨he, hd, hn, by omega⟩) (And.intro hcc (And.intro hW2 hzn)))
        have hd2 : decide (lf < z) = false := decide_eq_false (by omega)
        clear hT hd hcc ha hlen h1 h2 hlf hzn
        go_wp2_with (go_at_call 93; refine (rdrErr hW2.rd).mono ?_; rintro e w3 ⟨rfl, rfl⟩)
        go_quiet ((go_at_call 65; exact Calls.quiet_of (HL _)))
        go_wp2_with fail
        go_ret
        exact .inl ⟨n, a2, ret_int HH.out.2.2.2, HH.out.2.2.1.c0 ((Chg.refl Non _).drewN _), HH.out.1, HH.out.2.1.drewN _⟩
  · have hno : NoCnt l a er := by
      intro h1 n r hn hr
      exact absurd (hT.det h1 (n : Int) r ⟨by omega, by omega⟩ (by rw [hN n hn]; exact hr)).1 h0
    have hne : (e2 != 0) = true := by simp [h0]
    have HH := hide (And.intro hno (And.intro hcc h0))
    clear hT hcc hno h0
    go_wp2_with (go_at_call 93; refine (rdrErr hW2.rd).mono ?_; rintro e w3 ⟨rfl, rfl⟩)
    exact ⟨rfl, .inr ⟨e2, HH.out.2.2, rfl, HH.out.1, HH.out.2.1⟩⟩
set_option maxHeartbeats 4000000 in
set_option maxRecDepth 100000 in
theorem rvFlag {x g a b o : Nat} {er : Int} {l : List UInt8} {F : Nat → Prop} {vs : Array Value} {ty : TypeId} {w : World} (h : WRd w F x g l a er) (hB : Blk w b ty vs) (hf : Free F x g b) (ho : o < vs.size) :
    Calls Try.prog 76 #[.pointer (some ⟨x, 0, none⟩), .pointer (some ⟨b, o, none⟩)] w fun e w' => e = .returned (.tuple #[]) ∧ ∃ (z : Bool) (a' : Nat) (e' : Int), WRd w' F x g l a' e' ∧
      Blk w' b ty (vs.setIfInBounds o (.bool z)) ∧ Chg (fun k => k = g ∨ k = b) w w' ∧ Took (fun _ => True) flagB l a er z a' e' := by
  have k1 := h.k1
  obtain ⟨z, hz⟩ : ∃ z, z = (flagR l a er).1 := ⟨_, rfl⟩
  obtain ⟨a', ha'⟩ : ∃ z, z = (flagR l a er).2.1 := ⟨_, rfl⟩
  obtain ⟨e', he'⟩ : ∃ z, z = (flagR l a er).2.2 := ⟨_, rfl⟩
  have HT := hide (flagR_took l a er)
  have HC := hide (rdrFlag h.rd)
  rw [← hz, ← ha', ← he'] at HT HC
  clear hz ha' he'
  go_enter Try.func76, Try.ntmps76
  go_wp2_with (go_at_call 90; refine HC.out.mono ?_; rintro e w1 ⟨rfl, hr1, hc1⟩; obtain ⟨hB1, ⟨u1, y1⟩, y2⟩ := read_two h hr1 hc1 hB hf ho)
  refine bodyPost_end (results_none rfl _ _ _) rfl ⟨rfl, z, a', e', (h.step hr1 hc1).set hf _, hB1.set_ o _, chg_gb hc1 _, HT.out⟩

set_option maxHeartbeats 8000000 in
set_option maxRecDepth 100000 in
theorem rvTxn {x g a b o : Nat} {er : Int} {l : List UInt8} {F : Nat → Prop} {vs : Array Value} {ty : TypeId} {w : World} (h : WRd w F x g l a er) (hB : Blk w b ty vs) (hf : Free F x g b) (ho : o + 2 < vs.size) :
    Calls Try.prog 56 #[.pointer (some ⟨x, 0, none⟩), .pointer (some ⟨b, o, none⟩)] w fun e w' => e = .returned (.tuple #[]) ∧ ∃ (p q r : Nat) (a' : Nat) (e' : Int), WRd w' F x g l a' e' ∧ (U64 p ∧ U64 q ∧ U64 r) ∧
      Blk w' b ty (putL vs [o, o + 1, o + 2] [uv p, uv q, uv r]) ∧ Chg (fun k => k = g ∨ k = b) w w' ∧ Took (fun ns : List Nat => ns.length = 3 ∧ ∀ n ∈ ns, U64 n) (fun ns => ns.flatMap numB) l a er [p, q, r] a' e' := by
  have hcd : Chg Non w w.drew := (Chg.refl Non w).drew
  have hWD := h.c0 hcd
  have hpt := RdPt.lit w.drew 135 #[.pointer (some ⟨b, o, none⟩), .pointer (some ⟨b, o + 1, none⟩), .pointer (some ⟨b, o + 2, none⟩)] [⟨b, o, none⟩, ⟨b, o + 1, none⟩, ⟨b, o + 2, none⟩] 3 rfl rfl (by simp [maxLen])
  have hcM := (Chg.refl Non w.drew).alloc (.cells #[.pointer (some ⟨b, o, none⟩), .pointer (some ⟨b, o + 1, none⟩), .pointer (some ⟨b, o + 2, none⟩)] 135)
  have hWA := hWD.c0 hcM
  have hcx := hcd.trans0 hcM
  have hBA := hB.c0 hcx
  have hbl := hB.lt
  have hFp : ∀ k, k = w.drew.heap.size → k ≠ g ∧ k ≠ b := fun k e => by have := hWD.rd.lt; have : w.drew.heap.size = w.heap.size := rfl; omega
  have hos : ∀ j ∈ [o, o + 1, o + 2], j < vs.size := fun j hj => by simp at hj; omega
  have HC := hide (rvNum (os := [o, o + 1, o + 2]) hWA hpt hFp hBA hf hos)
  clear hos hFp hpt
  go_enter Try.func56, Try.ntmps56
  go_upto_region 0 with fail
  refine wp_region_T (fun _ => True) 99 (by kernel_rfl) ?_
  have HS := hide True.intro
  refine AnyT.take (i := 0) (v := ?_) rfl (by kernel_rfl) (by kernel_rfl) (fun _ _ _ h => h) (by kernel_rfl) (by kernel_rfl) (Or.inl ⟨by rfl, ?_⟩) HS.out ?_
  rotate_left
  · (intro w9 h9; go_simp; try with_reducible rfl)
  try simp only [getElem_toArray, getElem_cons_succ, getElem_cons_zero, Act.put, setIfInBounds_toArray, set_cons_zero, set_cons_succ]
  refine AnyT.take (i := 1) (v := ?_) rfl (by kernel_rfl) (by kernel_rfl) (fun _ _ _ h => h) (by kernel_rfl) (by kernel_rfl) (Or.inl ⟨by rfl, ?_⟩) HS.out ?_
  rotate_left
  · (intro w9 h9; go_simp; try with_reducible rfl)
  try simp only [getElem_toArray, getElem_cons_succ, getElem_cons_zero, Act.put, setIfInBounds_toArray, set_cons_zero, set_cons_succ]
  refine AnyT.take (i := 2) (v := ?_) rfl (by kernel_rfl) (by kernel_rfl) (fun _ _ _ h => h) (by kernel_rfl) (by kernel_rfl) (Or.inl ⟨by rfl, ?_⟩) HS.out ?_
  rotate_left
  · (intro w9 h9; go_simp; try with_reducible rfl)
  try simp only [getElem_toArray, getElem_cons_succ, getElem_cons_zero, Act.put, setIfInBounds_toArray, set_cons_zero, set_cons_succ]
  refine AnyT.take (i := 3) (v := ?_) rfl (by kernel_rfl) (by kernel_rfl) (fun _ _ _ h => h) (by kernel_rfl) (by kernel_rfl) (Or.inl ⟨by rfl, ?_⟩) HS.out ?_
  rotate_left
  · (intro w9 h9; go_simp; try with_reducible rfl)
  try simp only [getElem_toArray, getElem_cons_succ, getElem_cons_zero, Act.put, setIfInBounds_toArray, set_cons_zero, set_cons_succ]
  refine AnyT.take (i := 4) (v := ?_) rfl (by kernel_rfl) (by kernel_rfl) (fun _ _ _ h => h) (by kernel_rfl) (by kernel_rfl) (Or.inl ⟨by rfl, ?_⟩) HS.out ?_
  rotate_left
  · (intro w9 h9; go_simp; try with_reducible rfl)
  try simp only [getElem_toArray, getElem_cons_succ, getElem_cons_zero, Act.put, setIfInBounds_toArray, set_cons_zero, set_cons_succ]
  refine AnyT.take (i := 5) (v := ?_) rfl (by kernel_rfl) (by kernel_rfl) (fun _ _ _ h => h) (by kernel_rfl) (by kernel_rfl) (Or.inl ⟨by rfl, ?_⟩) HS.out ?_
  rotate_left
  · (intro w9 h9; go_simp; try with_reducible rfl)
  try simp only [getElem_toArray, getElem_cons_succ, getElem_cons_zero, Act.put, setIfInBounds_toArray, set_cons_zero, set_cons_succ]
  refine AnyT.take (i := 6) (v := ?_) rfl (by kernel_rfl) (by kernel_rfl) (fun _ _ _ h => h) (by kernel_rfl) (by kernel_rfl) (Or.inl ⟨by rfl, ?_⟩) HS.out ?_
  rotate_left
  · (intro w9 h9; go_simp; try with_reducible rfl)
  try simp only [getElem_toArray, getElem_cons_succ, getElem_cons_zero, Act.put, setIfInBounds_toArray, set_cons_zero, set_cons_succ]
  refine AnyT.take (i := 7) (v := ?_) rfl (by kernel_rfl) (by kernel_rfl) (fun _ _ _ h => h) (by kernel_rfl) (by kernel_rfl) (Or.inl ⟨by rfl, ?_⟩) HS.out ?_
  rotate_left
  · (intro w9 h9; go_simp; try with_reducible rfl)
  try simp only [getElem_toArray, getElem_cons_succ, getElem_cons_zero, Act.put, setIfInBounds_toArray, set_cons_zero, set_cons_succ]
  refine AnyT.take (i := 8) (v := ?_) rfl (by kernel_rfl) (by kernel_rfl) (fun _ _ _ h => h) (by kernel_rfl) (by kernel_rfl) (Or.inl ⟨by rfl, ?_⟩) HS.out ?_
  rotate_left
  · (intro w9 h9; go_simp; try with_reducible rfl)
  try simp only [getElem_toArray, getElem_cons_succ, getElem_cons_zero, Act.put, setIfInBounds_toArray, set_cons_zero, set_cons_succ]
  refine AnyT.take (i := 9) (v := ?_) rfl (by kernel_rfl) (by kernel_rfl) (fun _ _ _ h => h) (by kernel_rfl) (by kernel_rfl) (Or.inl ⟨by rfl, ?_⟩) HS.out ?_
  rotate_left
  · (intro w9 h9; go_simp; try with_reducible rfl)
  try simp only [getElem_toArray, getElem_cons_succ, getElem_cons_zero, Act.put, setIfInBounds_toArray, set_cons_zero, set_cons_succ]
  refine AnyT.one (i := 10) (by kernel_rfl) rfl (fun K hK => ?_)
  go_simp
  refine hK.out _ _ (fun _ => trivial) ?_
  clear hK K
  try simp only [getElem_toArray, getElem_cons_succ, getElem_cons_zero, Act.put, setIfInBounds_toArray, set_cons_zero, set_cons_succ]
  refine AnyT.one (i := 11) (by kernel_rfl) rfl (fun K hK => ?_)
  go_simp
  go_wp2_with (go_at_call 53; refine HC.out.mono ?_; rintro e w2 ⟨rfl, ns, a2, e2, hW2, hn2, hu2, hX2, hc2, hT2⟩)
  refine hK.out _ _ (fun _ => trivial) ?_
  clear hK K
  try simp only [getElem_toArray, getElem_cons_succ, getElem_cons_zero, Act.put, setIfInBounds_toArray, set_cons_zero, set_cons_succ]
  refine AnyT.nil (by kernel_rfl) ?_
  clear HS
  have HN := hide hn2
  have HT := hide hT2
  have HX := hide hX2
  have HUU := hide hu2
  clear hn2 hT2 hX2 hu2
  go_wp2_with fail
  obtain ⟨p, q, r, rfl⟩ : ∃ p q r, ns = [p, q, r] := by
    match ns, HN.out with
    | [p, q, r], _ => exact ⟨p, q, r, rfl⟩
  refine bodyPost_end (results_none rfl _ _ _) rfl ⟨rfl, p, q, r, a2, e2, hW2, ⟨HUU.out p (by simp), HUU.out q (by simp), HUU.out r (by simp)⟩, HX.out, (chgX hcx).trans hc2 fun _ _ h => h, HT.out⟩
end Go.Proofs.Ytncchbcoldgpbaa

namespace Go.Proofs.Ytncchbcoldgpbaa
open Go.RowKit
set_option linter.unusedVariables false
set_option linter.unusedSimpArgs false

theorem conv_nil (w : World) (n c : Nat) : (convert 26 9 (.slice none n c)).run Try.prog w = .ok (.string ⟨#[]⟩) w := by
  simp only [convert, Sem.run_bind, run_underlying Try.underlying26, run_underlying Try.underlying9, run_underlying Try.underlying5, Result.andThen_ok, Conv.bytesToString, Sem.run_pure]
  rfl
theorem conv_own {w : World} {base : Nat} {v : Value} {l : List UInt8} (h : OwnB w base v l) : (convert 26 9 v).run Try.prog w = .ok (.string ⟨l.toArray⟩) w := by
  have hr := h.rd
  have hh := h
  rcases hh.2 with ⟨h1, h2⟩ | ⟨g, cap, cur, e, rest⟩
  · subst h1
    have hl : l = [] := hr.is_nil
    subst hl
    exact conv_nil w 0 0
  · rw [e] at hr ⊢
    exact conv_text hr
/-- a text as a string -/
def strB (s : ByteArray) : List UInt8 := partB s.data.toList
theorem text_took {l : List UInt8} {a a' : Nat} {e e' : Int} {t : List UInt8} (h : Took T64 partB l a e t a' e') : Took (fun s : ByteArray => T64 s.data.toList) strB l a e ⟨t.toArray⟩ a' e' :=
  h.iso (fun t : List UInt8 => (⟨t.toArray⟩ : ByteArray)) (fun s : ByteArray => s.data.toList) (fun s _ => by simp) (fun s hs => hs) (fun t ht => by simpa using ht) (fun s _ => rfl) (fun t _ => by simp [strB])

set_option maxHeartbeats 8000000 in
set_option maxRecDepth 100000 in
theorem rvText {x g a b o : Nat} {er : Int} {l : List UInt8} {F : Nat → Prop} {vs : Array Value} {ty : TypeId} {s0 : ByteArray} {w : World} (h : WRd w F x g l a er) (hB : Blk w b ty vs) (hf : Free F x g b) (ho : vs[o]? = some (.string s0)) (hs0 : s0.size ≤ 1000000000) :
    Calls Try.prog 57 #[.pointer (some ⟨x, 0, none⟩), .pointer (some ⟨b, o, none⟩)] w fun e w' => e = .returned (.tuple #[]) ∧ ∃ (s : ByteArray) (a' : Nat) (e' : Int), WRd w' F x g l a' e' ∧
      Blk w' b ty (vs.setIfInBounds o (.string s)) ∧ Chg (fun k => k = g ∨ k = b) w w' ∧ Took (fun s : ByteArray => T64 s.data.toList) strB l a er s a' e' := by
  obtain ⟨cp, wB, hcv, hcB, hrB⟩ := conv_ex w s0 hs0
  have ca := (hB.cell o).trans ho
  have hWB := h.c0 hcB
  have hBB := hB.c0 hcB
  obtain ⟨bs, hbs⟩ : ∃ b, b = w.heap.size := ⟨_, rfl⟩
  rw [← hbs] at hcv hrB
  clear hbs
  go_enter Try.func57, Try.ntmps57
  go_upto_region 1 with fail
  clear hcv
  have hX := Blk.new wB 26 #[.slice (some ⟨bs, 0, none⟩) s0.size cp]
  have hcA := (Chg.refl Non wB).alloc (.cells #[.slice (some ⟨bs, 0, none⟩) s0.size cp] 26)
  have hfr := hWB.free (Nat.le_refl _)
  have hbl := hB.lt
  have hsz := hcB.size
  obtain ⟨bu, hbu⟩ : ∃ b, b = wB.heap.size := ⟨_, rfl⟩
  rw [← hbu] at hX hfr ⊢
  generalize World.alloc _ _ = wA at hX hcA ⊢
  have hbb : bu ≠ b := by omega
  have HBU := hide (And.intro hbu hsz)
  clear hbu ca hsz
  have hWA := hWB.c0 hcA
  have hpt := RdPt.lit wA 149 #[.pointer (some ⟨bu, 0, none⟩)] [⟨bu, 0, none⟩] 1 rfl rfl (by simp [maxLen])
  have hcL := (Chg.refl Non wA).alloc (.cells #[.pointer (some ⟨bu, 0, none⟩)] 149)
  have hWL := hWA.c0 hcL
  have hXL := hX.c0 hcL
  have hBL := (hBB.c0 hcA).c0 hcL
  have hFp : ∀ k, k = wA.heap.size → k ≠ g ∧ k ≠ bu := fun k e => by have := hX.lt; have := hWA.rd.lt; omega
  have hcx := (hcB.trans0 hcA).trans0 hcL
  go_upto_region 2 with (go_at_call 60; refine (rvData (os := [0]) hWL hpt hFp hXL hfr (by simp)).mono ?_; rintro e w2 ⟨rfl, ps, a2, e2, hW2, hn2, hu2, hX2, hc2, hT2⟩)
  obtain ⟨⟨u, t⟩, rfl⟩ : ∃ n, ps = [n] := List.length_eq_one_iff.1 hn2
  have hu := hu2.1 (u, t) (by simp)
  obtain ⟨U, un, uc, rfl⟩ : ∃ U un uc, u = .slice U un uc := hu.shapeH
  have cu2 : w2.cell? ⟨bu, 0, none⟩ = some (.slice U un uc) := (hX2.cell 0).trans rfl
  have hB2 := hBL.chg hc2 (fun h => by rcases h with h | h; exact hf.2.2 h; exact hbb h.symm)
  have ca2 := (hB2.cell o).trans ho
  have cf2 := hB2.frozen o
  have hct := conv_own hu
  obtain ⟨s, hs⟩ : ∃ s : ByteArray, s = ⟨t.toArray⟩ := ⟨_, rfl⟩
  rw [← hs] at hct
  have hT : Took (fun s : ByteArray => T64 s.data.toList) strB l a er s a2 e2 := by rw [hs]; exact text_took hT2.single
  have hcc : Chg (fun k => k = g ∨ k = b) w (w2.setCell ⟨b, o, none⟩ (.string s)) := by
    refine Chg.setCell ?_ (p := ⟨b, o, none⟩) (fun _ => .inr rfl) _
    refine (chgX hcx).trans hc2 fun k hk h => ?_
    rcases h with h | h
    · exact .inl h
    · have := HBU.out; omega
  have HF := hide (And.intro (hW2.set (i := o) hf (.string s)) (And.intro (hB2.set_ o (.string s)) (And.intro hcc hT)))
  clear hW2 hn2 hu2 hX2 hc2 hT2 hcA hcL hXL hWL hX hpt hB2 ho hcc hT hs hu hcx hBL hBB hWA hWB hcB hrB hB
  go_wp2_with fail
  refine bodyPost_end (results_none rfl _ _ _) rfl ⟨rfl, s, a2, e2, HF.out⟩
end Go.Proofs.Ytncchbcoldgpbaa

namespace Go.Proofs.Ytncchbcoldgpbaa
open Go.RowKit
set_option linter.unusedVariables false
set_option linter.unusedSimpArgs false

theorem rep_get (z : List Value) (hz : 0 < z.length) : ∀ (n i : Nat), i < n * z.length → (List.replicate n z).flatten[i]? = z[i % z.length]?
  | 0, i, h => by omega
  | n + 1, i, h => by
    rw [List.replicate_succ, List.flatten_cons, List.getElem?_append]
    by_cases hi : i < z.length
    · rw [if_pos hi, Nat.mod_eq_of_lt hi]
    · rw [if_neg hi, rep_get z hz n (i - z.length) (by rw [Nat.add_mul] at h; omega), ← Nat.mod_eq_sub_mod (by omega)]
theorem made_rep (z : List Value) (hz : 0 < z.length) (n : Nat) : madeCells z.toArray (n * z.length) = (List.replicate n z).flatten.toArray := by
  have hs : (List.replicate n z).flatten.length = n * z.length := by simp
  refine Array.ext (by rw [size_madeCells, List.size_toArray, hs]) fun i h1 h2 => ?_
  rw [size_madeCells] at h1
  have h3 := rep_get z hz n i h1
  have hm : i % z.length < z.length := Nat.mod_lt _ hz
  rw [List.getElem?_eq_getElem (by rw [hs]; exact h1), List.getElem?_eq_getElem hm] at h3
  injection h3 with h3
  simp only [madeCells, Array.getElem_map, Array.getElem_range, List.getElem_toArray, List.size_toArray]
  rw [h3]
  simp [hm]
theorem putL_row (pre post : List Value) : ∀ (os : List Nat) (xs : List Value) (mid : List Value), (∀ o ∈ os, o < mid.length) →
    putL (pre ++ (mid ++ post)).toArray (os.map (pre.length + ·)) xs = (pre ++ ((putL mid.toArray os xs).toList ++ post)).toArray
  | [], xs, mid, _ => by cases xs <;> rfl
  | o :: os, [], mid, _ => rfl
  | o :: os, v :: xs, mid, h => by
    have ho := h o (by simp)
    have e : (pre ++ (mid ++ post)).toArray.setIfInBounds (pre.length + o) v = (pre ++ (mid.set o v ++ post)).toArray := by
      rw [List.setIfInBounds_toArray, List.set_append, if_neg (by omega), Nat.add_sub_cancel_left, List.set_append, if_pos ho]
    have e2 : mid.toArray.setIfInBounds o v = (mid.set o v).toArray := by rw [List.setIfInBounds_toArray]
    rw [List.map_cons, putL, putL, e, e2]
    exact putL_row pre post os xs (mid.set o v) (fun o' h' => by rw [List.length_set]; exact h o' (List.mem_cons_of_mem _ h'))
/-- one element more, of those that were made -/
theorem putL_next (pre z : List Value) (m : Nat) (os : List Nat) (xs : List Value) (h : ∀ o ∈ os, o < z.length) (os' : List Nat) (ho : os' = os.map (pre.length + ·)) :
    putL (pre ++ (List.replicate (m + 1) z).flatten).toArray os' xs = (pre ++ ((putL z.toArray os xs).toList ++ (List.replicate m z).flatten)).toArray := by
  subst ho
  rw [List.replicate_succ, List.flatten_cons]
  exact putL_row pre _ os xs z h
/-- a row that was made belongs to the call -/
theorem row_of {w : World} {g n sz base : Nat} {t : TypeId} {l : List Value} (h : Blk w g t l.toArray) (hb : base ≤ g) (hl : l.length = n * sz) (hm : n ≤ maxLen) : w.ownsRow base t sz (.slice (some ⟨g, 0, none⟩) n n) n l := by
  exact ⟨hl, .inr ⟨g, n, l.toArray, rfl, hb, h, Nat.le_refl _, hm, by rw [List.size_toArray, hl], by rw [← hl]; exact List.take_length⟩⟩
end Go.Proofs.Ytncchbcoldgpbaa
