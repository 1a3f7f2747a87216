/- The walk of groynelaw06.Own. -/
import Derived.Test.YtpbgjldjipgfeaaRecQ
import Derived.Test.YtpbgjldjipgfeaaRecK
import Derived.Test.YtpbgjldjipgfeaaRecSM
import Derived.Test.YtpbgjldjipgfeaaOrdT
import Derived.Deep.Cut
import Derived.Deep.CutRange
namespace Go.Proofs.Ytpbgjldjipgfeaa
open Go.RowKit
set_option linter.unusedVariables false
set_option linter.unusedSimpArgs false

/-- append of ints onto a row of ints -/
theorem step_I {w : World} {ops : Array Oper} {o : Oper} {a : Act} {K : Act → World → Prop} {Q : Exit → Act → World → Prop} {E : Prop} (hgd : o.guard = none) (s x : Operand)
    (ho : o.op = .call { callee := .builtin .append, args := #[s, x], argTypes := #[27, 27] })
    {base : Nat} {v : Value} {xs : List Value} {n : Nat} (hown : w.ownsRow base 3 1 v n xs) (hv : a.eval s = v)
    {y : Value} {F : Nat → Prop} {l : List Int} (hr : RdI w F y l) (hy : a.eval x = y)
    (hb : n + l.length ≤ 1000000000000) (hbase : base ≤ w.heap.size)
    (h : ∀ v' w', w'.ownsRow base 3 1 v' (n + l.length) (xs ++ l.map fun n => .int .i64 n) → w.grownBy w' v.ownBlock → K (a.put o.dst v') w') :
    if Region.wanted o (yielded ops a.tmps) = true then Oper.wp Try.prog o a w K Q else E := by
  have hw : Region.wanted o (yielded ops a.tmps) = true := by simp [Region.wanted, hgd]
  rw [if_pos hw]
  obtain ⟨i, hi, hz, h1, h2⟩ := info_parts info_int
  subst hv; subst hy
  refine wp_append_rd w s x _ ho base 3 i _ 1 8 Try.underlying27 hi hz h1 h2 rfl (by omega) _ _ hown _ _ _ hr (fun y hy => by obtain ⟨m, _, rfl⟩ := List.mem_map.1 hy; rfl) (by simp only [maxLen]; omega) (by omega) hbase ?_
  intro v' w' hown' hgr _ _
  exact h v' w' hown' hgr
theorem own_I0 (w : World) : (w.alloc (.cells #[] 3)).ownsRow w.heap.size 3 1 (.slice (some ⟨w.heap.size, 0, none⟩) 0 0) 0 [] :=
  World.ownsRow_lit (size := 1) w #[] 0 (Nat.le_refl _) (by simp [maxLen]) rfl

theorem own_I1 (w : World) (cs : Array Value) (t : TypeId) : ((w.alloc (.cells cs t)).alloc (.cells #[] 3)).ownsRow w.heap.size 3 1 (.slice (some ⟨w.heap.size + 1, 0, none⟩) 0 0) 0 [] := by
  have h := own_I0 (w.alloc (.cells cs t))
  rw [show (w.alloc (.cells cs t)).heap.size = w.heap.size + 1 from by simp] at h
  exact row_low h (by omega)
theorem chg11 {a w : World} {o : Nat} {b0 b1 b2 b3 b4 b5 b6 b7 b8 b9 b10 : Value} (h : Chg Non a w) (ho : a.heap.size ≤ o) :
    Chg Non a (((((((((((w.setCell ⟨o, 0, none⟩ b0).setCell ⟨o, 1, none⟩ b1).setCell ⟨o, 2, none⟩ b2).setCell ⟨o, 3, none⟩ b3).setCell ⟨o, 4, none⟩ b4).setCell ⟨o, 5, none⟩ b5).setCell ⟨o, 6, none⟩ b6).setCell ⟨o, 7, none⟩ b7).setCell ⟨o, 8, none⟩ b8).setCell ⟨o, 9, none⟩ b9).setCell ⟨o, 10, none⟩ b10) := by
  have k : ∀ i, (⟨o, i, none⟩ : Addr).block < a.heap.size → False := fun i hi => by simp at hi; omega
  exact (((((((((((h.setCell (p := ⟨o, 0, none⟩) (fun h => (k 0 h).elim) _).setCell (p := ⟨o, 1, none⟩) (fun h => (k 1 h).elim) _).setCell (p := ⟨o, 2, none⟩) (fun h => (k 2 h).elim) _).setCell (p := ⟨o, 3, none⟩) (fun h => (k 3 h).elim) _).setCell (p := ⟨o, 4, none⟩) (fun h => (k 4 h).elim) _).setCell (p := ⟨o, 5, none⟩) (fun h => (k 5 h).elim) _).setCell (p := ⟨o, 6, none⟩) (fun h => (k 6 h).elim) _).setCell (p := ⟨o, 7, none⟩) (fun h => (k 7 h).elim) _).setCell (p := ⟨o, 8, none⟩) (fun h => (k 8 h).elim) _).setCell (p := ⟨o, 9, none⟩) (fun h => (k 9 h).elim) _).setCell (p := ⟨o, 10, none⟩) (fun h => (k 10 h).elim) _)
theorem row_sl {w : World} {base sz n : Nat} {e : TypeId} {v : Value} {xs : List Value} (h : w.ownsRow base e sz v n xs) : ∃ A n c, v = .slice A n c := RdV.sl (RdV.of_own h)

theorem own_ne {w : World} {o : Nat} {t e : TypeId} {cs : Array Value} {base sz n : Nat} {v : Value} {xs : List Value} (h : w.ownsRow base e sz v n xs) (hb : Blk w o t cs) (ht : e ≠ t) : ∀ k, v.ownBlock = some k → k ≠ o := by
  intro k hk e1
  subst e1
  rcases h.2 with ⟨rfl, _⟩ | ⟨g', cap, cur, rfl, _, hg, _⟩
  · cases hk
  · simp only [Value.ownBlock, Option.some.injEq] at hk
    subst hk
    rw [Blk] at hb
    rw [hb] at hg
    injection hg with hg
    injection hg with _ h2
    exact ht h2.symm
theorem chgN {S : Nat → Prop} {a b : World} (h : Chg Non a b) : Chg S a b := h.mono fun _ _ h => h.elim
theorem shR {w5 wx : World} {v : Value} {l : List Int} {b b0 o : Nat} (h : w5.ownsRow b0 3 1 v (0 + l.length) ([] ++ l.map fun n => .int .i64 n)) (hne : ∀ k, v.ownBlock = some k → k ≠ o) (hb : b ≤ b0) (hc : Chg (fun k => k = o) w5 wx) :
    RdI wx (fun k => b ≤ k ∧ k ≠ o) v l := by
  rw [Nat.zero_add, List.nil_append] at h
  exact RdV.chg ((RdV.of_own h).mono (F' := fun k => b ≤ k ∧ k ≠ o) fun k hk => ⟨Nat.le_trans hb (World.ownsRow.lt h k hk).1, hne k hk⟩) hc fun k hk e => hk.2 e
theorem rpR {w6 wx : World} {v : Value} {l : List UInt8} {b m o : Nat} (h : OwnB w6 m v l) (hne : ∀ k, v.ownBlock = some k → k ≠ o) (hb : b ≤ m) (hc : Chg (fun k => k = o) w6 wx) : RdB wx (fun k => b ≤ k ∧ k ≠ o) v l :=
  (h.rd.mono (F' := fun k => b ≤ k ∧ k ≠ o) fun k hk => ⟨Nat.le_trans hb (h.lt k hk).1, hne k hk⟩).chg hc fun k hk e => hk.2 e

theorem triW_le : ∀ {l : List WrS} {y : WrS}, y ∈ l → y.a.length + y.b.length ≤ triW l
  | a :: l, y, h => by
    rcases List.mem_cons.1 h with rfl | h
    · simp only [triW, List.map_cons, List.sum_cons]; omega
    · have := triW_le h
      simp only [triW, List.map_cons, List.sum_cons] at this ⊢; omega
/-- what follows a statement that stands last is given a name, so that go_cut may cut there -/
theorem wp_named {P : Program} {s : Code} {Q : Exit → Act → World → Prop} {a : Act} {w : World} (h : ∀ K : Act → World → Prop, (∀ a' w', Q .normal a' w' → K a' w') → s.wp P (Exit.then K Q) a w) : s.wp P Q a w :=
  wp_mono (h (Q .normal) fun _ _ h => h) (by intro e a w hq; cases e <;> exact hq)
/-- two rows of different types lie in different blocks -/
theorem own_ne2 {w : World} {t e : TypeId} {b1 b2 s1 s2 n1 n2 : Nat} {v u : Value} {xs ys : List Value} (h : w.ownsRow b1 e s1 v n1 xs) (h' : w.ownsRow b2 t s2 u n2 ys) (ht : e ≠ t) : ∀ k, v.ownBlock = some k → ¬ (some k = u.ownBlock) := by
  intro k hk e1
  rcases h'.2 with ⟨rfl, _⟩ | ⟨g', cap, cur, rfl, _, hg, _⟩
  · cases e1
  · simp only [Value.ownBlock, Option.some.injEq] at e1
    subst e1
    exact own_ne h hg ht k hk rfl
theorem leafRow {t : TypeId} {wc wr w1 w2 w3 : World} {o n i : Nat} {q v3 u1 u2 z : Value} {ys ys' : List Value} {pcs : List (Value × List UInt8)} {la lb : List UInt8} {obj : Obj}
    (ht : 5 ≠ t) (ho : o < wc.heap.size) (hcw : Chg (fun k => k = o) wc wr) (hrow : wr.ownsRow wc.heap.size t 3 q n ys) (hpc : ∀ p ∈ pcs, OwnB wr wc.heap.size p.1 p.2)
    (hc1 : Chg Non wr w1) (hu1 : OwnB w1 wr.heap.size u1 la) (hc2 : Chg Non w1 w2) (hu2 : OwnB w2 w1.heap.size u2 lb) (hg : (w2.alloc obj).grownBy w3 q.ownBlock) (hO3 : w3.ownsRow wc.heap.size t 3 v3 (n + 1) ys') :
    (w3.setCell ⟨o, i, none⟩ z).ownsRow wc.heap.size t 3 v3 (n + 1) ys' ∧ (∀ p ∈ pcs, OwnB (w3.setCell ⟨o, i, none⟩ z) wc.heap.size p.1 p.2) ∧ OwnB (w3.setCell ⟨o, i, none⟩ z) wc.heap.size u1 la ∧ OwnB (w3.setCell ⟨o, i, none⟩ z) wc.heap.size u2 lb ∧ Chg (fun k => k = o) wc (w3.setCell ⟨o, i, none⟩ z) := by
  have hs := hcw.size
  have hx := (Chg.refl (fun j => j = o) w3).setCell (p := ⟨o, i, none⟩) (fun _ => rfl) z
  have hcL : Chg Non wr (w2.alloc obj) := (hc1.trans0 hc2).alloc obj
  have hrL := row_chg hrow hcL fun _ _ h => h
  have hG := Chg.of_grown hg
  have key : ∀ {v : Value} {l : List UInt8}, OwnB (w2.alloc obj) wc.heap.size v l → OwnB (w3.setCell ⟨o, i, none⟩ z) wc.heap.size v l := fun h =>
    (h.chg hG fun k hk e => own_ne2 h hrL ht k hk e).chg hx fun k hk (e : k = o) => by have := (h.lt k hk).1; omega
  refine ⟨row_chg hO3 hx fun k hk (e : k = o) => by have := (World.ownsRow.lt hO3 k hk).1; omega, fun p hp => key ((hpc p hp).c0 hcL), key (((hu1.c0 hc2).c0 ((Chg.refl Non w2).alloc obj)).low hs), key ((hu2.c0 ((Chg.refl Non w2).alloc obj)).low (Nat.le_trans hs hc1.size)), ?_⟩
  exact ((hcw.trans0 hcL).own hg fun k hk => (World.ownsRow.lt hrow k hk).1).trans hx fun _ _ h => h

set_option maxHeartbeats 8000000 in
set_option maxRecDepth 100000 in
theorem lawOwn {x : RcS} {wv rv sv pv : Value} {F : Nat → Prop} {w : World} (hr : RecR w F x wv rv sv pv) (hs : RcSm x) :
    Calls Try.prog 8 #[.agg (recC x wv rv sv pv)] w fun e w' => ∃ a b c d, e = .returned (.agg (recC x a b c d)) ∧ RecR w' (fun k => w.heap.size ≤ k) x a b c d ∧ Chg Non w w' := by
  obtain ⟨A1, n1, k1, rfl⟩ := hr.ws.sl
  obtain ⟨A2, n2, k2, rfl⟩ := hr.rs.sl
  obtain ⟨A3, n3, k3, rfl⟩ := RdV.sl hr.sh
  obtain ⟨A4, n4, k4, rfl⟩ := hr.rep.sl
  obtain ⟨hb0, hz0, hk0⟩ := box2 w (recC x (.slice A1 n1 k1) (.slice A2 n2 k2) (.slice A3 n3 k3) (.slice A4 n4 k4)) zeroC 30 32
  have hr0 := hr.lt.c0 hk0
  have hrl := hs.rep
  have hsl := hs.sh
  have hu := And.intro hr.u1 (And.intro hr.u2 (And.intro hr.u3 (And.intro hr.u4 hr.ki)))
  have HU := hide hu
  clear hr hu
  unfold recC zeroC at *
  go_enter Try.func8, Try.ntmps8
  go_upto_region 1 with fail
  generalize World.alloc _ _ = w0 at hb0 hz0 hk0 hr0 ⊢
  have hsz := hk0.size
  have hbd : Blk w0.drew w.heap.size 30 _ := hb0
  have hHB := hide hb0
  obtain ⟨c0, c1, c2, c3, c4, c5, c6, c7, c8, c9, c10⟩ := rblk hbd
  have hd : Chg Non w0 w0.drew := (Chg.refl Non w0).drew
  have hshd := RdI.c0 hr0.sh hd
  have hrpd := hr0.rep.c0 hd
  go_cut [3] from 26 (fun v3 wx => ∃ o sv pv, v3 = .pointer (some ⟨o, 0, none⟩) ∧ w0.heap.size ≤ o ∧ Blk wx o 32 #[.int .i64 x.kind, .int .u64 (x.boot : Int), .int .u64 (x.sess : Int), .int .u64 (x.seq : Int), .slice none 0 0, .slice none 0 0, .bool x.commit, sv, pv, .int .u64 (x.id : Int), .string x.name] ∧
    RdI wx (fun k => w0.heap.size ≤ k ∧ k ≠ o) sv x.shards ∧ RdB wx (fun k => w0.heap.size ≤ k ∧ k ≠ o) pv x.reply ∧ Chg Non w0 wx)
  case first =>
    clear hb0 hbd hz0
    have hS : ∀ w', Chg Non w0.drew w' → (w'.cell? ⟨w.heap.size, 0, none⟩ = some (.int .i64 x.kind) ∧ w'.cell? ⟨w.heap.size, 1, none⟩ = some (.int .u64 (x.boot : Int)) ∧ w'.cell? ⟨w.heap.size, 2, none⟩ = some (.int .u64 (x.sess : Int)) ∧ w'.cell? ⟨w.heap.size, 3, none⟩ = some (.int .u64 (x.seq : Int)) ∧ w'.cell? ⟨w.heap.size, 6, none⟩ = some (.bool x.commit) ∧ w'.cell? ⟨w.heap.size, 7, none⟩ = some (.slice A3 n3 k3) ∧ w'.cell? ⟨w.heap.size, 8, none⟩ = some (.slice A4 n4 k4) ∧ w'.cell? ⟨w.heap.size, 9, none⟩ = some (.int .u64 (x.id : Int)) ∧ w'.cell? ⟨w.heap.size, 10, none⟩ = some (.string x.name)) := fun w' h => ⟨h.cell c0 (fun h => h), h.cell c1 (fun h => h), h.cell c2 (fun h => h), h.cell c3 (fun h => h), h.cell c6 (fun h => h), h.cell c7 (fun h => h), h.cell c8 (fun h => h), h.cell c9 (fun h => h), h.cell c10 (fun h => h)⟩
    have hcur := Chg.refl Non w0.drew
    have E0 := own_I0 w0.drew
    have EB := row_chg E0 ((Chg.refl Non _).alloc (.cells #[.int .i64 0, .int .u64 0, .int .u64 0, .int .u64 0, .slice none 0 0, .slice none 0 0, .bool false, .slice none 0 0, .slice none 0 0, .int .u64 0, .string ⟨#[]⟩] 32)) fun _ _ h => h
    have EC := own_I1 w0.drew #[.int .i64 0, .int .u64 0, .int .u64 0, .int .u64 0, .slice none 0 0, .slice none 0 0, .bool false, .slice none 0 0, .slice none 0 0, .int .u64 0, .string ⟨#[]⟩] 32
    have BC : Blk _ w0.heap.size _ _ := (Blk.new w0.drew 32 #[.int .i64 0, .int .u64 0, .int .u64 0, .int .u64 0, .slice none 0 0, .slice none 0 0, .bool false, .slice none 0 0, .slice none 0 0, .int .u64 0, .string ⟨#[]⟩]).al (.cells #[] 3)
    have BB := Blk.new (w0.drew.alloc (.cells #[] 3)) 32 #[.int .i64 0, .int .u64 0, .int .u64 0, .int .u64 0, .slice none 0 0, .slice none 0 0, .bool false, .slice none 0 0, .slice none 0 0, .int .u64 0, .string ⟨#[]⟩]
    rw [show (w0.drew.alloc (.cells #[] 3)).heap.size = w0.heap.size + 1 from by simp] at BB
    have hn1 : ¬ (some w0.heap.size = (Value.slice (some ⟨w0.heap.size + 1, 0, none⟩) 0 0).ownBlock) := by simp [Value.ownBlock]
    have hn2 : ¬ (some (w0.heap.size + 1) = (Value.slice (some ⟨w0.heap.size, 0, none⟩) 0 0).ownBlock) := by simp [Value.ownBlock]
    have hq0 : w0.drew.heap.size ≤ w0.heap.size := Nat.le_refl _
    have hq1 : w0.drew.heap.size ≤ w0.heap.size + 1 := Nat.le_succ _
    have hls : 0 + x.shards.length ≤ 1000000000000 := by omega
    have hlr : x.reply.length ≤ 140737488355328 := by omega
    clear c0 c1 c2 c3 c4 c5 c6 c7 c8 c9 c10
    have HS := hide hS
    clear hS
    go_region_held3 (fun w' => w'.cell? ⟨w.heap.size, 0, none⟩ = some (.int .i64 x.kind) ∧ w'.cell? ⟨w.heap.size, 1, none⟩ = some (.int .u64 (x.boot : Int)) ∧ w'.cell? ⟨w.heap.size, 2, none⟩ = some (.int .u64 (x.sess : Int)) ∧ w'.cell? ⟨w.heap.size, 3, none⟩ = some (.int .u64 (x.seq : Int)) ∧ w'.cell? ⟨w.heap.size, 6, none⟩ = some (.bool x.commit) ∧ w'.cell? ⟨w.heap.size, 7, none⟩ = some (.slice A3 n3 k3) ∧ w'.cell? ⟨w.heap.size, 8, none⟩ = some (.slice A4 n4 k4) ∧ w'.cell? ⟨w.heap.size, 9, none⟩ = some (.int .u64 (x.id : Int)) ∧ w'.cell? ⟨w.heap.size, 10, none⟩ = some (.string x.name))
      ((refine HS.out _ ?_; first | with_reducible exact hcur | with_reducible exact chg11 hcur hoX | with_reducible exact hcur.alloc _ | exact hcur.alloc _ | exact (hcur.alloc _).alloc _)) (first
      | (go_at_call 16; refine (refCopy (F := fun k => F k ∧ k < w.heap.size) ?_ hlr).mono ?_; refine hrpd.c0 ?_; (first | with_reducible exact hcur | exact hcur.alloc _); rintro e w6 ⟨u6, rfl, hu6, hc6⟩; obtain ⟨B6, m6, d6, rfl⟩ := hu6.sl; (first | (have hcur := hcur.trans0 hc6; (try have hBo := hBo.c0 hc6)) | (have hcur := (hcur.alloc _).trans0 hc6; have hBo := (Blk.new w5 32 #[.int .i64 0, .int .u64 0, .int .u64 0, .int .u64 0, .slice none 0 0, .slice none 0 0, .bool false, .slice none 0 0, .slice none 0 0, .int .u64 0, .string ⟨#[]⟩]).c0 hc6; have hoX := hsz5)); (try (have hBq := hBo; obtain ⟨z0, z1, z2, z3, z4, z5, z6, z7, z8, z9, z10⟩ := rblk hBq; obtain ⟨f0, f1, f2, f3, f4, f5, f6, f7, f8, f9, f10⟩ := rfrz hBq)); have hsz6 := hcur.size; have hBn := Blk.new w6 32 #[.int .i64 0, .int .u64 0, .int .u64 0, .int .u64 0, .slice none 0 0, .slice none 0 0, .bool false, .slice none 0 0, .slice none 0 0, .int .u64 0, .string ⟨#[]⟩]; have hBn2 := hBn; obtain ⟨y0, y1, y2, y3, y4, y5, y6, y7, y8, y9, y10⟩ := rblk hBn; obtain ⟨g0, g1, g2, g3, g4, g5, g6, g7, g8, g9, g10⟩ := rfrz hBn2)
      | (refine step_I (base := w0.drew.heap.size) (n := 0) (xs := []) (F := fun k => F k ∧ k < w.heap.size) (l := x.shards) rfl _ _ rfl ?_ rfl ?_ rfl hls ?_ ?_; (first | exact E0 | exact EB | exact EC); refine RdI.c0 hshd ?_; (first | exact hcur.alloc _ | exact (hcur.alloc _).alloc _); (first | exact szAl _ _ | exact Nat.le_trans (szAl _ _) (szAl _ _)); intro v5 w5 hO5 hg5; obtain ⟨B5, m5, d5, rfl⟩ := row_sl hO5; (first | (have hcur := (hcur.alloc _).own hg5 (fun k hk => (World.ownsRow.lt E0 k hk).1)) | (have hcur := ((hcur.alloc _).alloc _).own hg5 (fun k hk => (World.ownsRow.lt EB k hk).1); have hBo := BB.chg (Chg.of_grown hg5) hn2; have hBo5 := hBo; have hoX := hq1) | (have hcur := ((hcur.alloc _).alloc _).own hg5 (fun k hk => (World.ownsRow.lt EC k hk).1); have hBo := BC.chg (Chg.of_grown hg5) hn1; have hBo5 := hBo; have hoX := hq0)); have hsz5 := hcur.size; have hrp5 := hrpd.c0 hcur))
    · have hF5 : ∀ k, (Value.slice B5 m5 d5).ownBlock = some k → k ≠ w6.heap.size := fun k hk e => by have := (World.ownsRow.lt hO5 k hk).2; have := hc6.size; omega
      have hF6 : ∀ k, (Value.slice B6 m6 d6).ownBlock = some k → k ≠ w6.heap.size := fun k hk e => by have := (hu6.lt k hk).2; omega
      have hN := Blk.new w6 32 #[.int .i64 x.kind, .int .u64 (x.boot : Int), .int .u64 (x.sess : Int), .int .u64 (x.seq : Int), .slice none 0 0, .slice none 0 0, .bool x.commit, .slice B5 m5 d5, .slice B6 m6 d6, .int .u64 (x.id : Int), .string x.name]
      have hY := (Chg.refl Non w6).alloc (.cells #[.int .i64 x.kind, .int .u64 (x.boot : Int), .int .u64 (x.sess : Int), .int .u64 (x.seq : Int), .slice none 0 0, .slice none 0 0, .bool x.commit, .slice B5 m5 d5, .slice B6 m6 d6, .int .u64 (x.id : Int), .string x.name] 32)
      generalize World.alloc _ _ = wx at hN hY ⊢
      clear y0 y1 y2 y3 y4 y5 y6 y7 y8 y9 y10 g0 g1 g2 g3 g4 g5 g6 g7 g8 g9 g10
      go_wp2_with fail
      go_meet
      exact ⟨w6.heap.size, _, _, rfl, hsz6, hN, shR hO5 hF5 hq0 (chgN (hc6.trans0 hY)), rpR hu6 hF6 hsz5 (chgN hY), (hd.trans0 hcur).trans0 hY⟩
    · have hF5 : ∀ k, (Value.slice B5 m5 d5).ownBlock = some k → k ≠ w5.heap.size := fun k hk e => by have := (World.ownsRow.lt hO5 k hk).2; omega
      have hF6 : ∀ k, (Value.slice B6 m6 d6).ownBlock = some k → k ≠ w5.heap.size := fun k hk e => by have h1 := (hu6.lt k hk).1; simp at h1; omega
      obtain ⟨hX, hY⟩ := rput hBo (.int .i64 x.kind) (.int .u64 (x.boot : Int)) (.int .u64 (x.sess : Int)) (.int .u64 (x.seq : Int)) (.slice none 0 0) (.slice none 0 0) (.bool x.commit) (.slice B5 m5 d5) (.slice B6 m6 d6) (.int .u64 (x.id : Int)) (.string x.name)
      have hc56 : Chg Non w5 w6 := ((Chg.refl Non w5).alloc _).trans0 hc6
      have hm6 : w0.drew.heap.size ≤ (w5.alloc (.cells #[.int .i64 0, .int .u64 0, .int .u64 0, .int .u64 0, .slice none 0 0, .slice none 0 0, .bool false, .slice none 0 0, .slice none 0 0, .int .u64 0, .string ⟨#[]⟩] 32)).heap.size := Nat.le_trans hsz5 (szAl _ _)
      generalize World.setCell _ _ _ = wx at hX hY ⊢
      clear y0 y1 y2 y3 y4 y5 y6 y7 y8 y9 y10 g0 g1 g2 g3 g4 g5 g6 g7 g8 g9 g10 z0 z1 z2 z3 z4 z5 z6 z7 z8 z9 z10 f0 f1 f2 f3 f4 f5 f6 f7 f8 f9 f10
      go_wp2_with fail
      go_meet
      exact ⟨w5.heap.size, _, _, rfl, hoX, hX, shR hO5 hF5 hq0 ((chgN hc56).trans hY fun _ _ h => h), rpR hu6 hF6 hm6 hY, (hd.trans0 hcur).trans hY fun k hk (e : k = w5.heap.size) => by (have : w0.drew.heap.size = w0.heap.size := rfl); omega⟩
    · have hF5 : ∀ k, (Value.slice B5 m5 d5).ownBlock = some k → k ≠ (w0.heap.size + 1) := own_ne hO5 hBo5 (by decide)
      have hF6 : ∀ k, (Value.slice B6 m6 d6).ownBlock = some k → k ≠ (w0.heap.size + 1) := fun k hk e => by have h1 := (hu6.lt k hk).1; have := hBo5.lt; omega
      obtain ⟨hX, hY⟩ := rput hBo (.int .i64 x.kind) (.int .u64 (x.boot : Int)) (.int .u64 (x.sess : Int)) (.int .u64 (x.seq : Int)) (.slice none 0 0) (.slice none 0 0) (.bool x.commit) (.slice B5 m5 d5) (.slice B6 m6 d6) (.int .u64 (x.id : Int)) (.string x.name)
      have hc56 : Chg Non w5 w6 := hc6
      have hm6 : w0.drew.heap.size ≤ w5.heap.size := hsz5
      generalize World.setCell _ _ _ = wx at hX hY ⊢
      clear y0 y1 y2 y3 y4 y5 y6 y7 y8 y9 y10 g0 g1 g2 g3 g4 g5 g6 g7 g8 g9 g10 z0 z1 z2 z3 z4 z5 z6 z7 z8 z9 z10 f0 f1 f2 f3 f4 f5 f6 f7 f8 f9 f10
      go_wp2_with fail
      go_meet
      exact ⟨(w0.heap.size + 1), _, _, rfl, hoX, hX, shR hO5 hF5 hq0 ((chgN hc56).trans hY fun _ _ h => h), rpR hu6 hF6 hm6 hY, (hd.trans0 hcur).trans hY fun k hk (e : k = (w0.heap.size + 1)) => by (have : w0.drew.heap.size = w0.heap.size := rfl); omega⟩
    · have hF5 : ∀ k, (Value.slice B5 m5 d5).ownBlock = some k → k ≠ w0.heap.size := own_ne hO5 hBo5 (by decide)
      have hF6 : ∀ k, (Value.slice B6 m6 d6).ownBlock = some k → k ≠ w0.heap.size := fun k hk e => by have h1 := (hu6.lt k hk).1; have := hBo5.lt; omega
      obtain ⟨hX, hY⟩ := rput hBo (.int .i64 x.kind) (.int .u64 (x.boot : Int)) (.int .u64 (x.sess : Int)) (.int .u64 (x.seq : Int)) (.slice none 0 0) (.slice none 0 0) (.bool x.commit) (.slice B5 m5 d5) (.slice B6 m6 d6) (.int .u64 (x.id : Int)) (.string x.name)
      have hc56 : Chg Non w5 w6 := hc6
      have hm6 : w0.drew.heap.size ≤ w5.heap.size := hsz5
      generalize World.setCell _ _ _ = wx at hX hY ⊢
      clear y0 y1 y2 y3 y4 y5 y6 y7 y8 y9 y10 g0 g1 g2 g3 g4 g5 g6 g7 g8 g9 g10 z0 z1 z2 z3 z4 z5 z6 z7 z8 z9 z10 f0 f1 f2 f3 f4 f5 f6 f7 f8 f9 f10
      go_wp2_with fail
      go_meet
      exact ⟨w0.heap.size, _, _, rfl, hoX, hX, shR hO5 hF5 hq0 ((chgN hc56).trans hY fun _ _ h => h), rpR hu6 hF6 hm6 hY, (hd.trans0 hcur).trans hY fun k hk (e : k = w0.heap.size) => by (have : w0.drew.heap.size = w0.heap.size := rfl); omega⟩
  case rest =>
    obtain ⟨o, sv, pv, rfl, ho, hB, hS, hP, hc⟩ := hcut
    obtain ⟨s1, s2, s3, rfl⟩ := RdV.sl hS
    obtain ⟨p1, p2, p3, rfl⟩ := hP.sl
    have hz0l : w.heap.size + 1 < w0.heap.size := hz0.lt
    have hb1 := hHB.out.c0 hc
    have hz1 := hz0.c0 hc
    have hr1 := hr0.c0 hc
    have hol := hB.lt
    obtain ⟨A', c', e, _, _⟩ := hr1.ws.shape
    injection e with e1 e2 e3
    subst e1; subst e2; subst e3
    obtain ⟨A', c', e, _, _⟩ := hr1.rs.shape
    injection e with e1 e2 e3
    subst e1; subst e2; subst e3
    clear c0 c1 c2 c3 c4 c5 c6 c7 c8 c9 c10 hbd hshd hrpd hd hb0
    have c4 : wc.cell? ⟨w.heap.size, 4, none⟩ = some (.slice A1 x.ws.length k1) := hb1.cell 4
    have HSM := hide hs
    have hsw := hs.wn
    go_wp2_with fail
    go_loopw [29] (fun iv wr => ∃ (l1 l2 : List WrS) (xs : List (Value × Value)) (q : Value), iv = .int .i64 (l1.length : Int) ∧ Hid (x.ws = l1 ++ l2) ∧ xs.length = l1.length ∧ Blk wr o 32 #[.int .i64 x.kind, .int .u64 (x.boot : Int), .int .u64 (x.sess : Int), .int .u64 (x.seq : Int), q, .slice none 0 0, .bool x.commit, .slice s1 s2 s3, .slice p1 p2 p3, .int .u64 (x.id : Int), .string x.name] ∧ wr.ownsRow wc.heap.size 49 3 q l1.length (flW xs l1) ∧ (∀ p ∈ pcW xs l1, OwnB wr wc.heap.size p.1 p.2) ∧ Chg (fun k => k = o) wc wr) (fun iv _ => x.ws.length - (intOf iv).toNat)
    case atStart => exact ⟨[], x.ws, [], _, rfl, hide rfl, rfl, hB, World.ownsRow_nil _ _ _ 3, fun p hp => by simp [pcW] at hp, Chg.refl _ _⟩
    case round =>
      obtain ⟨l1, l2, xs, q, rfl, HL, hxl, hBo, hrow, hpc, hcw⟩ := hrel
      have hlen : x.ws.length = l1.length + l2.length := by rw [HL.out, List.length_append]
      obtain ⟨Q1, q1, d1, rfl⟩ := row_sl hrow
      rcases l2 with _ | ⟨y, l2⟩
      · have hL : l1 = x.ws := by have := HL.out; simpa using this.symm
        subst hL
        have hRW := rdW_of hxl hrow hpc
        have hb2 := hb1.chg hcw (fun (e : w.heap.size = o) => by omega)
        have hz2 := hz1.chg hcw (fun (e : w.heap.size + 1 = o) => by omega)
        have hrs2 := hr1.rs.chg hcw (fun k hk (e : k = o) => by have := hk.2; omega)
        have hS2 := RdI.chg hS hcw (fun k hk e => hk.2 e)
        have hP2 := hP.chg hcw (fun k hk e => hk.2 e)
        have hct2 := hc.trans hcw (fun k hk (e : k = o) => by omega)
        have c5 : wr.cell? ⟨w.heap.size, 5, none⟩ = some (.slice A2 x.rs.length k2) := hb2.cell 5
        have hol2 := hBo.lt
        have hsb := hcw.size
        have hsr := hs.rn
        clear hpc hrow hcw hxl hlen HL
        obtain ⟨wb, rfl⟩ : ∃ b, b = wr := ⟨_, rfl⟩
        have hol := hol2
        go_wp2_with fail
        go_loopw [51] (fun iv wr => ∃ (l1 l2 : List WrS) (xs : List (Value × Value)) (q : Value), iv = .int .i64 (l1.length : Int) ∧ Hid (x.rs = l1 ++ l2) ∧ xs.length = l1.length ∧ Blk wr o 32 #[.int .i64 x.kind, .int .u64 (x.boot : Int), .int .u64 (x.sess : Int), .int .u64 (x.seq : Int), .slice Q1 q1 d1, q, .bool x.commit, .slice s1 s2 s3, .slice p1 p2 p3, .int .u64 (x.id : Int), .string x.name] ∧ wr.ownsRow wb.heap.size 63 3 q l1.length (flW xs l1) ∧ (∀ p ∈ pcW xs l1, OwnB wr wb.heap.size p.1 p.2) ∧ Chg (fun k => k = o) wb wr) (fun iv _ => x.rs.length - (intOf iv).toNat)
        case atStart => exact ⟨[], x.rs, [], _, rfl, hide rfl, rfl, hBo, World.ownsRow_nil _ _ _ 3, fun p hp => by simp [pcW] at hp, Chg.refl _ _⟩
        case round =>
          obtain ⟨l1, l2, xs, q, rfl, HL, hxl, hBo, hrow, hpc, hcw⟩ := hrel
          have hlen : x.rs.length = l1.length + l2.length := by rw [HL.out, List.length_append]
          obtain ⟨Q2, q2, d2, rfl⟩ := row_sl hrow
          rcases l2 with _ | ⟨y, l2⟩
          · have hL : l1 = x.rs := by have := HL.out; simpa using this.symm
            subst hL
            have hRR := rdW_of hxl hrow hpc
            have hC : Chg (fun k => k = o) wb wr := hcw
            have hz3 := hz2.chg hC (fun (e : w.heap.size + 1 = o) => by omega)
            have hq1 : w.heap.size ≤ wc.heap.size := by omega
            have hq2 : w.heap.size ≤ wb.heap.size := by omega
            have hq3 : w.heap.size ≤ w0.heap.size := by omega
            have hRW3 := hRW.chg hC (fun k (hk : wc.heap.size ≤ k) (e : k = o) => by omega)
            have hS3 := RdI.chg hS2 hC (fun k hk e => hk.2 e)
            have hP3 := hP2.chg hC (fun k hk e => hk.2 e)
            have hct3 := hct2.trans hC (fun k hk (e : k = o) => by omega)
            have hsz3 := hcw.size
            have HRR := hide hRR
            clear hpc hrow hcw hxl hlen HL
            obtain ⟨a0, a1, a2, a3, a4, a5, a6, a7, a8, a9, a10⟩ := rblk hBo
            obtain ⟨z0, z1, z2, z3, z4, z5, z6, z7, z8, z9, z10⟩ := rblk hz3
            obtain ⟨f0, f1, f2, f3, f4, f5, f6, f7, f8, f9, f10⟩ := rfrz hz3
            obtain ⟨hB9, hC9⟩ := rput hz3 (.int .i64 x.kind) (.int .u64 (x.boot : Int)) (.int .u64 (x.sess : Int)) (.int .u64 (x.seq : Int)) (.slice Q1 q1 d1) (.slice Q2 q2 d2) (.bool x.commit) (.slice s1 s2 s3) (.slice p1 p2 p3) (.int .u64 (x.id : Int)) (.string x.name)
            clear hBo hz3
            go_wp2_with fail
            generalize World.setCell _ _ _ = wz at hB9 hC9 ⊢
            clear a0 a1 a2 a3 a4 a5 a6 a7 a8 a9 a10 z0 z1 z2 z3 z4 z5 z6 z7 z8 z9 z10 f0 f1 f2 f3 f4 f5 f6 f7 f8 f9 f10
            obtain ⟨a0, a1, a2, a3, a4, a5, a6, a7, a8, a9, a10⟩ := rblk hB9
            refine bodyPost_ret (v := .agg #[.int .i64 x.kind, .int .u64 (x.boot : Int), .int .u64 (x.sess : Int), .int .u64 (x.seq : Int), .slice Q1 q1 d1, .slice Q2 q2 d2, .bool x.commit, .slice s1 s2 s3, .slice p1 p2 p3, .int .u64 (x.id : Int), .string x.name]) (by simp [results, Try.results8, go_sem, a0, a1, a2, a3, a4, a5, a6, a7, a8, a9, a10]) rfl ?_
            have hu := HU.out
            refine ⟨.slice Q1 q1 d1, .slice Q2 q2 d2, .slice s1 s2 s3, .slice p1 p2 p3, rfl, ⟨(hRW3.chg hC9 fun k (hk : wc.heap.size ≤ k) (e : k = w.heap.size + 1) => by omega).mono fun k (hk : wc.heap.size ≤ k) => Nat.le_trans hq1 hk, (HRR.out.chg hC9 fun k (hk : wb.heap.size ≤ k) (e : k = w.heap.size + 1) => by omega).mono fun k (hk : wb.heap.size ≤ k) => Nat.le_trans hq2 hk, RdV.mono (RdI.chg hS3 hC9 fun k hk (e : k = w.heap.size + 1) => by have := hk.1; omega) fun k hk => Nat.le_trans hq3 hk.1, (hP3.chg hC9 fun k hk (e : k = w.heap.size + 1) => by have := hk.1; omega).mono fun k hk => Nat.le_trans hq3 hk.1, hu.1, hu.2.1, hu.2.2.1, hu.2.2.2.1, hu.2.2.2.2⟩, ?_⟩
            exact (hk0.trans0 hct3).trans hC9 fun k hk (e : k = w.heap.size + 1) => by omega
          · simp only [List.length_cons] at hlen
            have h1 : l1.length < x.rs.length := by omega
            have hy : x.rs[l1.length]? = some y := by rw [HL.out]; simp
            have hy' : x.rs[l1.length] = y := (List.getElem?_eq_some_iff.1 hy).2
            obtain ⟨ad, p, q, rfl, had, c1, c2, c3, rp, rq⟩ := (hrs2.chg hcw fun k hk (e : k = o) => by have := hk.2; omega).at_ h1
            rw [hy'] at c3 rp rq
            obtain ⟨P, np, cp, rfl⟩ := rp.sl
            obtain ⟨R, nq, cq, rfl⟩ := rq.sl
            obtain ⟨f, hf⟩ : ∃ f, f = y.f := ⟨_, rfl⟩
            rw [← hf] at c3
            have hla : y.a.length ≤ 140737488355328 := by have := triW_le (List.mem_of_getElem? hy); have := HSM.out.rs; omega
            have hlb : y.b.length ≤ 140737488355328 := by have := triW_le (List.mem_of_getElem? hy); have := HSM.out.rs; omega
            have h1i : (l1.length : Int) < (x.rs.length : Int) := by omega
            have h0i : (0 : Int) ≤ (l1.length : Int) := by omega
            have hs0 := hcw.size
            have hn9 : l1.length + 1 ≤ 1000000000000 := by omega
            have HLEN := hide hlen
            have HF := hide hf
            clear hy hy' hf hlen
            go_wp2_with fail
            have hBX := Blk.new wr 63 #[.slice P np cp, .slice R nq cq, .bool f]
            have hcA := (Chg.refl Non wr).alloc (.cells #[.slice P np cp, .slice R nq cq, .bool f] 63)
            have hsA : (wr.alloc (.cells #[.slice P np cp, .slice R nq cq, .bool f] 63)).heap.size = wr.heap.size + 1 := by simp
            obtain ⟨bx, hbx⟩ : ∃ bx, bx = wr.heap.size := ⟨_, rfl⟩
            rw [← hbx] at hBX ⊢
            generalize World.alloc _ _ = wA at hBX hcA hsA ⊢
            have hnb : ¬ (some bx = (Value.slice Q2 q2 d2).ownBlock) := fun e => by have := (World.ownsRow.lt hrow bx e.symm).2; omega
            clear c1 c2 c3 hbx hsA
            have hBA := hBo.c0 hcA
            have b0 : wA.drew.cell? ⟨bx, 0, none⟩ = some (.slice P np cp) := hBX.cell 0
            have b1 : wA.drew.cell? ⟨bx, 1, none⟩ = some (.slice R nq cq) := hBX.cell 1
            have b2 : wA.drew.cell? ⟨bx, 2, none⟩ = some (.bool f) := hBX.cell 2
            have b3 : wA.drew.cell? ⟨o, 5, none⟩ = some (.slice Q2 q2 d2) := hBA.cell 5
            have hcD : Chg Non wr wA.drew := hcA.drew
            have rp := rp.c0 hcD
            have rq := rq.c0 hcD
            have HB := hide hBo
            have HR := hide hrow
            have hno : ¬ (some o = (Value.slice Q2 q2 d2).ownBlock) := fun e => by have := (World.ownsRow.lt hrow o e.symm).1; omega
            clear hBo hrow hBX hBA had
            have HFL := hide (fun a b => flW_snoc xs l1 (a, b) y hxl)
            have HPC := hide (fun a b => pcW_snoc xs l1 (a, b) y hxl)
            refine wp_named fun KK hKK => ?_
            go_cut [51] from 51 to 69 (fun v wx => v = .int .i64 (l1.length : Int) ∧ ∃ q' a b, Blk wx o 32 #[.int .i64 x.kind, .int .u64 (x.boot : Int), .int .u64 (x.sess : Int), .int .u64 (x.seq : Int), .slice Q1 q1 d1, q', .bool x.commit, .slice s1 s2 s3, .slice p1 p2 p3, .int .u64 (x.id : Int), .string x.name] ∧ wx.ownsRow wb.heap.size 63 3 q' (l1.length + 1) (flW xs l1 ++ [a, b, .bool f]) ∧ (∀ p ∈ pcW xs l1, OwnB wx wb.heap.size p.1 p.2) ∧ OwnB wx wb.heap.size a y.a ∧ OwnB wx wb.heap.size b y.b ∧ Chg (fun k => k = o) wb wx)
            case first =>
              obtain ⟨S, hSd⟩ : ∃ S : World → Prop, ∀ w', S w' ↔ (w'.cell? ⟨bx, 0, none⟩ = some (.slice P np cp) ∧ w'.cell? ⟨bx, 1, none⟩ = some (.slice R nq cq) ∧ w'.cell? ⟨bx, 2, none⟩ = some (.bool f) ∧ w'.cell? ⟨o, 5, none⟩ = some (.slice Q2 q2 d2)) := ⟨_, fun _ => Iff.rfl⟩
              have HSd := hide hSd
              have HS0 := hide ((hSd _).2 ⟨b0, b1, b2, b3⟩)
              clear hSd
              refine wp_region_T S 13 (by kernel_rfl) ?_
              refine AnyT.take (i := 0) (v := ?_) rfl (by kernel_rfl) (by kernel_rfl) (fun _ _ _ h => h) (by kernel_rfl) (by kernel_rfl) (Or.inl ⟨by rfl, ?_⟩) HS0.out ?_
              rotate_left
              · (intro w9 h9; obtain ⟨z0, z1, z2, z3⟩ := (HSd.out _).1 h9; go_simp; try with_reducible rfl)
              simp only [Act.put, List.setIfInBounds_toArray, List.set_cons_zero, List.set_cons_succ]
              refine AnyT.take (i := 1) (v := ?_) rfl (by kernel_rfl) (by kernel_rfl) (fun _ _ _ h => h) (by kernel_rfl) (by kernel_rfl) (Or.inl ⟨by rfl, ?_⟩) HS0.out ?_
              rotate_left
              · (intro w9 h9; obtain ⟨z0, z1, z2, z3⟩ := (HSd.out _).1 h9; go_simp; try with_reducible rfl)
              simp only [Act.put, List.setIfInBounds_toArray, List.set_cons_zero, List.set_cons_succ]
              refine AnyT.take (i := 2) (v := ?_) rfl (by kernel_rfl) (by kernel_rfl) (fun _ _ _ h => h) (by kernel_rfl) (by kernel_rfl) (Or.inl ⟨by rfl, ?_⟩) HS0.out ?_
              rotate_left
              · (intro w9 h9; obtain ⟨z0, z1, z2, z3⟩ := (HSd.out _).1 h9; go_simp; try with_reducible rfl)
              simp only [Act.put, List.setIfInBounds_toArray, List.set_cons_zero, List.set_cons_succ]
              refine AnyT.take (i := 3) (v := ?_) rfl (by kernel_rfl) (by kernel_rfl) (fun _ _ _ h => h) (by kernel_rfl) (by kernel_rfl) (Or.inl ⟨by rfl, ?_⟩) HS0.out ?_
              rotate_left
              · (intro w9 h9; obtain ⟨z0, z1, z2, z3⟩ := (HSd.out _).1 h9; go_simp; try with_reducible rfl)
              simp only [Act.put, List.setIfInBounds_toArray, List.set_cons_zero, List.set_cons_succ]
              refine AnyT.take (i := 5) (v := ?_) rfl (by kernel_rfl) (by kernel_rfl) (fun _ _ _ h => h) (by kernel_rfl) (by kernel_rfl) (Or.inl ⟨by rfl, ?_⟩) HS0.out ?_
              rotate_left
              · (intro w9 h9; obtain ⟨z0, z1, z2, z3⟩ := (HSd.out _).1 h9; go_simp; try with_reducible rfl)
              simp only [Act.put, List.setIfInBounds_toArray, List.set_cons_zero, List.set_cons_succ]
              refine AnyT.take (i := 6) (v := ?_) rfl (by kernel_rfl) (by kernel_rfl) (fun _ _ _ h => h) (by kernel_rfl) (by kernel_rfl) (Or.inl ⟨by rfl, ?_⟩) HS0.out ?_
              rotate_left
              · (intro w9 h9; obtain ⟨z0, z1, z2, z3⟩ := (HSd.out _).1 h9; go_simp; try with_reducible rfl)
              simp only [Act.put, List.setIfInBounds_toArray, List.set_cons_zero, List.set_cons_succ]
              refine AnyT.take (i := 8) (v := ?_) rfl (by kernel_rfl) (by kernel_rfl) (fun _ _ _ h => h) (by kernel_rfl) (by kernel_rfl) (Or.inl ⟨by rfl, ?_⟩) HS0.out ?_
              rotate_left
              · (intro w9 h9; obtain ⟨z0, z1, z2, z3⟩ := (HSd.out _).1 h9; go_simp; try with_reducible rfl)
              simp only [Act.put, List.setIfInBounds_toArray, List.set_cons_zero, List.set_cons_succ]
              refine AnyT.take (i := 9) (v := ?_) rfl (by kernel_rfl) (by kernel_rfl) (fun _ _ _ h => h) (by kernel_rfl) (by kernel_rfl) (Or.inl ⟨by rfl, ?_⟩) HS0.out ?_
              rotate_left
              · (intro w9 h9; obtain ⟨z0, z1, z2, z3⟩ := (HSd.out _).1 h9; go_simp; try with_reducible rfl)
              simp only [Act.put, List.setIfInBounds_toArray, List.set_cons_zero, List.set_cons_succ]
              refine AnyT.one (i := 4) (by kernel_rfl) rfl (fun K hK => ?_)
              go_simp
              go_wp2_with (go_at_call 16; refine (refCopy rp hla).mono ?_; rintro e w1 ⟨u1, rfl, hu1, hc1⟩; obtain ⟨A1c, n1c, k1c, rfl⟩ := hu1.sl; have b0 := hc1.cell b0 (fun h => h); have b1 := hc1.cell b1 (fun h => h); have b2 := hc1.cell b2 (fun h => h); have b3 := hc1.cell b3 (fun h => h))
              have HS0 := hide ((HSd.out _).2 ⟨b0, b1, b2, b3⟩)
              refine hK.out _ _ (fun _ => HS0.out) ?_
              clear hK K
              try simp only [Act.put, List.setIfInBounds_toArray, List.set_cons_zero, List.set_cons_succ]
              refine AnyT.one (i := 7) (by kernel_rfl) rfl (fun K hK => ?_)
              go_simp
              go_wp2_with (go_at_call 16; refine (refCopy (rq.c0 hc1) hlb).mono ?_; rintro e w2 ⟨u2, rfl, hu2, hc2⟩; obtain ⟨A2c, n2c, k2c, rfl⟩ := hu2.sl; have b0 := hc2.cell b0 (fun h => h); have b1 := hc2.cell b1 (fun h => h); have b2 := hc2.cell b2 (fun h => h); have b3 := hc2.cell b3 (fun h => h))
              have HS0 := hide ((HSd.out _).2 ⟨b0, b1, b2, b3⟩)
              refine hK.out _ _ (fun _ => HS0.out) ?_
              clear hK K
              try simp only [Act.put, List.setIfInBounds_toArray, List.set_cons_zero, List.set_cons_succ]
              refine AnyT.take (i := 10) (v := ?_) rfl (by kernel_rfl) (by kernel_rfl) (fun _ _ _ h => h) (by kernel_rfl) (by kernel_rfl) (Or.inl ⟨by rfl, ?_⟩) HS0.out ?_
              rotate_left
              · (intro w9 h9; obtain ⟨z0, z1, z2, z3⟩ := (HSd.out _).1 h9; go_simp; try with_reducible rfl)
              simp only [Act.put, List.setIfInBounds_toArray, List.set_cons_zero, List.set_cons_succ]
              have b4 : (w2.alloc (.cells #[.slice A1c n1c k1c, .slice A2c n2c k2c, .bool f] 63)).cell? ⟨o, 5, none⟩ = _ := cell_al b3
              have hcL := ((hcD.trans0 hc1).trans0 hc2).alloc (.cells #[.slice A1c n1c k1c, .slice A2c n2c k2c, .bool f] 63)
              have hrL := row_chg HR.out hcL (fun _ _ h => h)
              have hbl := Blk.new w2 63 #[.slice A1c n1c k1c, .slice A2c n2c k2c, .bool f]
              have hsL := Nat.le_trans hs0 hcL.size
              refine AnyT.one (i := 11) (by kernel_rfl) rfl (fun K hK => ?_)
              go_simp
              refine hK.out _ _ (fun _ => (HSd.out _).2 ⟨cell_al b0, cell_al b1, cell_al b2, b4⟩) ?_
              clear hK K
              try simp only [Act.put, List.setIfInBounds_toArray, List.set_cons_zero, List.set_cons_succ]
              refine AnyT.one (i := 12) (by kernel_rfl) rfl (fun K hK => ?_)
              refine step_R1 rfl _ _ rfl hrL rfl hbl rfl hn9 hsL ?_
              intro v3 w3 hO3 hg3 hat3
              obtain ⟨A3, n3, k3, rfl⟩ := row_sl hO3
              have HB3 := hide ((HB.out.c0 hcL).chg (Chg.of_grown hg3) hno)
              have g4 := HB3.out.frozen 5
              have z4 : w3.cell? ⟨o, 5, none⟩ = some (.slice Q2 q2 d2) := HB3.out.cell 5
              refine hK.out _ _ (fun _ => (HSd.out _).2 ⟨(Chg.of_grown hg3).cell (cell_al b0) hnb, (Chg.of_grown hg3).cell (cell_al b1) hnb, (Chg.of_grown hg3).cell (cell_al b2) hnb, z4⟩) ?_
              clear hK K
              try simp only [Act.put, List.setIfInBounds_toArray, List.set_cons_zero, List.set_cons_succ]
              refine AnyT.one (i := 13) (by kernel_rfl) rfl (fun K hK => ?_)
              go_simp
              refine hK.out _ _ (fun h => absurd h (by decide)) ?_
              clear hK K
              try simp only [Act.put, List.setIfInBounds_toArray, List.set_cons_zero, List.set_cons_succ]
              refine AnyT.one (i := 14) (by kernel_rfl) rfl (fun K hK => ?_)
              go_simp
              refine hK.out _ _ (fun h => absurd h (by decide)) ?_
              clear hK K
              refine AnyT.nil (by kernel_rfl) ?_
              have hb4 := HB3.out.set_ 5 (.slice A3 n3 k3)
              simp only [List.setIfInBounds_toArray, List.set_cons_succ, List.set_cons_zero] at hb4
              obtain ⟨e1, e2, e3, e4, e5⟩ := leafRow (i := 5) (z := .slice A3 n3 k3) (by decide) hol hcw HR.out hpc (hcD.trans0 hc1) (hu1.low hcD.size) hc2 hu2 hg3 hO3
              generalize World.setCell _ _ _ = wx at hb4 e1 e2 e3 e4 e5 ⊢
              clear b0 b1 b2 b3 b4 g4 z4 hbl hrL hcL
              go_wp2_with fail
              go_meet
              exact ⟨rfl, _, _, _, hb4, e1, e2, e3, e4, e5⟩
            case rest =>
              obtain ⟨rfl, q', a, b, hb4, e1, e2, e3, e4, e5⟩ := hcut
              clear b0 b1 b2 b3
              refine hKK _ _ ?_
              go_wp2_with fail
              go_roundw
              case rel =>
                refine ⟨l1 ++ [y], l2, xs ++ [(a, b)], q', by rw [List.length_append]; go_num, hide (by rw [HL.out, List.append_assoc]; rfl), by simp [hxl], hb4, ?_, ?_, e5⟩
                · rw [HFL.out, List.length_append, ← HF.out]; exact e1
                · rw [HPC.out]
                  intro p hp
                  rcases List.mem_append.1 hp with h | h
                  · exact e2 p h
                  · simp at h
                    rcases h with rfl | rfl
                    · exact e3
                    · exact e4
              case measure => (have hlen := HLEN.out; simp [intOf]; omega)
      · simp only [List.length_cons] at hlen
        have h1 : l1.length < x.ws.length := by omega
        have hy : x.ws[l1.length]? = some y := by rw [HL.out]; simp
        have hy' : x.ws[l1.length] = y := (List.getElem?_eq_some_iff.1 hy).2
        obtain ⟨ad, p, q, rfl, had, c1, c2, c3, rp, rq⟩ := (hr1.ws.chg hcw fun k hk (e : k = o) => by have := hk.2; omega).at_ h1
        rw [hy'] at c3 rp rq
        obtain ⟨P, np, cp, rfl⟩ := rp.sl
        obtain ⟨R, nq, cq, rfl⟩ := rq.sl
        obtain ⟨f, hf⟩ : ∃ f, f = y.f := ⟨_, rfl⟩
        rw [← hf] at c3
        have hla : y.a.length ≤ 140737488355328 := by have := triW_le (List.mem_of_getElem? hy); have := HSM.out.ws; omega
        have hlb : y.b.length ≤ 140737488355328 := by have := triW_le (List.mem_of_getElem? hy); have := HSM.out.ws; omega
        have h1i : (l1.length : Int) < (x.ws.length : Int) := by omega
        have h0i : (0 : Int) ≤ (l1.length : Int) := by omega
        have hs0 := hcw.size
        have hn9 : l1.length + 1 ≤ 1000000000000 := by omega
        have HLEN := hide hlen
        have HF := hide hf
        clear hy hy' hf hlen
        go_wp2_with fail
        have hBX := Blk.new wr 49 #[.slice P np cp, .slice R nq cq, .bool f]
        have hcA := (Chg.refl Non wr).alloc (.cells #[.slice P np cp, .slice R nq cq, .bool f] 49)
        have hsA : (wr.alloc (.cells #[.slice P np cp, .slice R nq cq, .bool f] 49)).heap.size = wr.heap.size + 1 := by simp
        obtain ⟨bx, hbx⟩ : ∃ bx, bx = wr.heap.size := ⟨_, rfl⟩
        rw [← hbx] at hBX ⊢
        generalize World.alloc _ _ = wA at hBX hcA hsA ⊢
        have hnb : ¬ (some bx = (Value.slice Q1 q1 d1).ownBlock) := fun e => by have := (World.ownsRow.lt hrow bx e.symm).2; omega
        clear c1 c2 c3 hbx hsA
        have hBA := hBo.c0 hcA
        have b0 : wA.drew.cell? ⟨bx, 0, none⟩ = some (.slice P np cp) := hBX.cell 0
        have b1 : wA.drew.cell? ⟨bx, 1, none⟩ = some (.slice R nq cq) := hBX.cell 1
        have b2 : wA.drew.cell? ⟨bx, 2, none⟩ = some (.bool f) := hBX.cell 2
        have b3 : wA.drew.cell? ⟨o, 4, none⟩ = some (.slice Q1 q1 d1) := hBA.cell 4
        have hcD : Chg Non wr wA.drew := hcA.drew
        have rp := rp.c0 hcD
        have rq := rq.c0 hcD
        have HB := hide hBo
        have HR := hide hrow
        have hno : ¬ (some o = (Value.slice Q1 q1 d1).ownBlock) := fun e => by have := (World.ownsRow.lt hrow o e.symm).1; omega
        clear hBo hrow hBX hBA had
        have HFL := hide (fun a b => flW_snoc xs l1 (a, b) y hxl)
        have HPC := hide (fun a b => pcW_snoc xs l1 (a, b) y hxl)
        refine wp_named fun KK hKK => ?_
        go_cut [29] from 29 to 47 (fun v wx => v = .int .i64 (l1.length : Int) ∧ ∃ q' a b, Blk wx o 32 #[.int .i64 x.kind, .int .u64 (x.boot : Int), .int .u64 (x.sess : Int), .int .u64 (x.seq : Int), q', .slice none 0 0, .bool x.commit, .slice s1 s2 s3, .slice p1 p2 p3, .int .u64 (x.id : Int), .string x.name] ∧ wx.ownsRow wc.heap.size 49 3 q' (l1.length + 1) (flW xs l1 ++ [a, b, .bool f]) ∧ (∀ p ∈ pcW xs l1, OwnB wx wc.heap.size p.1 p.2) ∧ OwnB wx wc.heap.size a y.a ∧ OwnB wx wc.heap.size b y.b ∧ Chg (fun k => k = o) wc wx)
        case first =>
          obtain ⟨S, hSd⟩ : ∃ S : World → Prop, ∀ w', S w' ↔ (w'.cell? ⟨bx, 0, none⟩ = some (.slice P np cp) ∧ w'.cell? ⟨bx, 1, none⟩ = some (.slice R nq cq) ∧ w'.cell? ⟨bx, 2, none⟩ = some (.bool f) ∧ w'.cell? ⟨o, 4, none⟩ = some (.slice Q1 q1 d1)) := ⟨_, fun _ => Iff.rfl⟩
          have HSd := hide hSd
          have HS0 := hide ((hSd _).2 ⟨b0, b1, b2, b3⟩)
          clear hSd
          refine wp_region_T S 13 (by kernel_rfl) ?_
          refine AnyT.take (i := 0) (v := ?_) rfl (by kernel_rfl) (by kernel_rfl) (fun _ _ _ h => h) (by kernel_rfl) (by kernel_rfl) (Or.inl ⟨by rfl, ?_⟩) HS0.out ?_
          rotate_left
          · (intro w9 h9; obtain ⟨z0, z1, z2, z3⟩ := (HSd.out _).1 h9; go_simp; try with_reducible rfl)
          simp only [Act.put, List.setIfInBounds_toArray, List.set_cons_zero, List.set_cons_succ]
          refine AnyT.take (i := 1) (v := ?_) rfl (by kernel_rfl) (by kernel_rfl) (fun _ _ _ h => h) (by kernel_rfl) (by kernel_rfl) (Or.inl ⟨by rfl, ?_⟩) HS0.out ?_
          rotate_left
          · (intro w9 h9; obtain ⟨z0, z1, z2, z3⟩ := (HSd.out _).1 h9; go_simp; try with_reducible rfl)
          simp only [Act.put, List.setIfInBounds_toArray, List.set_cons_zero, List.set_cons_succ]
          refine AnyT.take (i := 2) (v := ?_) rfl (by kernel_rfl) (by kernel_rfl) (fun _ _ _ h => h) (by kernel_rfl) (by kernel_rfl) (Or.inl ⟨by rfl, ?_⟩) HS0.out ?_
          rotate_left
          · (intro w9 h9; obtain ⟨z0, z1, z2, z3⟩ := (HSd.out _).1 h9; go_simp; try with_reducible rfl)
          simp only [Act.put, List.setIfInBounds_toArray, List.set_cons_zero, List.set_cons_succ]
          refine AnyT.take (i := 3) (v := ?_) rfl (by kernel_rfl) (by kernel_rfl) (fun _ _ _ h => h) (by kernel_rfl) (by kernel_rfl) (Or.inl ⟨by rfl, ?_⟩) HS0.out ?_
          rotate_left
          · (intro w9 h9; obtain ⟨z0, z1, z2, z3⟩ := (HSd.out _).1 h9; go_simp; try with_reducible rfl)
          simp only [Act.put, List.setIfInBounds_toArray, List.set_cons_zero, List.set_cons_succ]
          refine AnyT.take (i := 5) (v := ?_) rfl (by kernel_rfl) (by kernel_rfl) (fun _ _ _ h => h) (by kernel_rfl) (by kernel_rfl) (Or.inl ⟨by rfl, ?_⟩) HS0.out ?_
          rotate_left
          · (intro w9 h9; obtain ⟨z0, z1, z2, z3⟩ := (HSd.out _).1 h9; go_simp; try with_reducible rfl)
          simp only [Act.put, List.setIfInBounds_toArray, List.set_cons_zero, List.set_cons_succ]
          refine AnyT.take (i := 6) (v := ?_) rfl (by kernel_rfl) (by kernel_rfl) (fun _ _ _ h => h) (by kernel_rfl) (by kernel_rfl) (Or.inl ⟨by rfl, ?_⟩) HS0.out ?_
          rotate_left
          · (intro w9 h9; obtain ⟨z0, z1, z2, z3⟩ := (HSd.out _).1 h9; go_simp; try with_reducible rfl)
          simp only [Act.put, List.setIfInBounds_toArray, List.set_cons_zero, List.set_cons_succ]
          refine AnyT.take (i := 8) (v := ?_) rfl (by kernel_rfl) (by kernel_rfl) (fun _ _ _ h => h) (by kernel_rfl) (by kernel_rfl) (Or.inl ⟨by rfl, ?_⟩) HS0.out ?_
          rotate_left
          · (intro w9 h9; obtain ⟨z0, z1, z2, z3⟩ := (HSd.out _).1 h9; go_simp; try with_reducible rfl)
          simp only [Act.put, List.setIfInBounds_toArray, List.set_cons_zero, List.set_cons_succ]
          refine AnyT.take (i := 9) (v := ?_) rfl (by kernel_rfl) (by kernel_rfl) (fun _ _ _ h => h) (by kernel_rfl) (by kernel_rfl) (Or.inl ⟨by rfl, ?_⟩) HS0.out ?_
          rotate_left
          · (intro w9 h9; obtain ⟨z0, z1, z2, z3⟩ := (HSd.out _).1 h9; go_simp; try with_reducible rfl)
          simp only [Act.put, List.setIfInBounds_toArray, List.set_cons_zero, List.set_cons_succ]
          refine AnyT.one (i := 4) (by kernel_rfl) rfl (fun K hK => ?_)
          go_simp
          go_wp2_with (go_at_call 16; refine (refCopy rp hla).mono ?_; rintro e w1 ⟨u1, rfl, hu1, hc1⟩; obtain ⟨A1c, n1c, k1c, rfl⟩ := hu1.sl; have b0 := hc1.cell b0 (fun h => h); have b1 := hc1.cell b1 (fun h => h); have b2 := hc1.cell b2 (fun h => h); have b3 := hc1.cell b3 (fun h => h))
          have HS0 := hide ((HSd.out _).2 ⟨b0, b1, b2, b3⟩)
          refine hK.out _ _ (fun _ => HS0.out) ?_
          clear hK K
          try simp only [Act.put, List.setIfInBounds_toArray, List.set_cons_zero, List.set_cons_succ]
          refine AnyT.one (i := 7) (by kernel_rfl) rfl (fun K hK => ?_)
          go_simp
          go_wp2_with (go_at_call 16; refine (refCopy (rq.c0 hc1) hlb).mono ?_; rintro e w2 ⟨u2, rfl, hu2, hc2⟩; obtain ⟨A2c, n2c, k2c, rfl⟩ := hu2.sl; have b0 := hc2.cell b0 (fun h => h); have b1 := hc2.cell b1 (fun h => h); have b2 := hc2.cell b2 (fun h => h); have b3 := hc2.cell b3 (fun h => h))
          have HS0 := hide ((HSd.out _).2 ⟨b0, b1, b2, b3⟩)
          refine hK.out _ _ (fun _ => HS0.out) ?_
          clear hK K
          try simp only [Act.put, List.setIfInBounds_toArray, List.set_cons_zero, List.set_cons_succ]
          refine AnyT.take (i := 10) (v := ?_) rfl (by kernel_rfl) (by kernel_rfl) (fun _ _ _ h => h) (by kernel_rfl) (by kernel_rfl) (Or.inl ⟨by rfl, ?_⟩) HS0.out ?_
          rotate_left
          · (intro w9 h9; obtain ⟨z0, z1, z2, z3⟩ := (HSd.out _).1 h9; go_simp; try with_reducible rfl)
          simp only [Act.put, List.setIfInBounds_toArray, List.set_cons_zero, List.set_cons_succ]
          have b4 : (w2.alloc (.cells #[.slice A1c n1c k1c, .slice A2c n2c k2c, .bool f] 49)).cell? ⟨o, 4, none⟩ = _ := cell_al b3
          have hcL := ((hcD.trans0 hc1).trans0 hc2).alloc (.cells #[.slice A1c n1c k1c, .slice A2c n2c k2c, .bool f] 49)
          have hrL := row_chg HR.out hcL (fun _ _ h => h)
          have hbl := Blk.new w2 49 #[.slice A1c n1c k1c, .slice A2c n2c k2c, .bool f]
          have hsL := Nat.le_trans hs0 hcL.size
          refine AnyT.one (i := 11) (by kernel_rfl) rfl (fun K hK => ?_)
          go_simp
          refine hK.out _ _ (fun _ => (HSd.out _).2 ⟨cell_al b0, cell_al b1, cell_al b2, b4⟩) ?_
          clear hK K
          try simp only [Act.put, List.setIfInBounds_toArray, List.set_cons_zero, List.set_cons_succ]
          refine AnyT.one (i := 12) (by kernel_rfl) rfl (fun K hK => ?_)
          refine step_W1 rfl _ _ rfl hrL rfl hbl rfl hn9 hsL ?_
          intro v3 w3 hO3 hg3 hat3
          obtain ⟨A3, n3, k3, rfl⟩ := row_sl hO3
          have HB3 := hide ((HB.out.c0 hcL).chg (Chg.of_grown hg3) hno)
          have g4 := HB3.out.frozen 4
          have z4 : w3.cell? ⟨o, 4, none⟩ = some (.slice Q1 q1 d1) := HB3.out.cell 4
          refine hK.out _ _ (fun _ => (HSd.out _).2 ⟨(Chg.of_grown hg3).cell (cell_al b0) hnb, (Chg.of_grown hg3).cell (cell_al b1) hnb, (Chg.of_grown hg3).cell (cell_al b2) hnb, z4⟩) ?_
          clear hK K
          try simp only [Act.put, List.setIfInBounds_toArray, List.set_cons_zero, List.set_cons_succ]
          refine AnyT.one (i := 13) (by kernel_rfl) rfl (fun K hK => ?_)
          go_simp
          refine hK.out _ _ (fun h => absurd h (by decide)) ?_
          clear hK K
          try simp only [Act.put, List.setIfInBounds_toArray, List.set_cons_zero, List.set_cons_succ]
          refine AnyT.one (i := 14) (by kernel_rfl) rfl (fun K hK => ?_)
          go_simp
          refine hK.out _ _ (fun h => absurd h (by decide)) ?_
          clear hK K
          refine AnyT.nil (by kernel_rfl) ?_
          have hb4 := HB3.out.set_ 4 (.slice A3 n3 k3)
          simp only [List.setIfInBounds_toArray, List.set_cons_succ, List.set_cons_zero] at hb4
          obtain ⟨e1, e2, e3, e4, e5⟩ := leafRow (i := 4) (z := .slice A3 n3 k3) (by decide) hol hcw HR.out hpc (hcD.trans0 hc1) (hu1.low hcD.size) hc2 hu2 hg3 hO3
          generalize World.setCell _ _ _ = wx at hb4 e1 e2 e3 e4 e5 ⊢
          clear b0 b1 b2 b3 b4 g4 z4 hbl hrL hcL
          go_wp2_with fail
          go_meet
          exact ⟨rfl, _, _, _, hb4, e1, e2, e3, e4, e5⟩
        case rest =>
          obtain ⟨rfl, q', a, b, hb4, e1, e2, e3, e4, e5⟩ := hcut
          clear b0 b1 b2 b3
          refine hKK _ _ ?_
          go_wp2_with fail
          go_roundw
          case rel =>
            refine ⟨l1 ++ [y], l2, xs ++ [(a, b)], q', by rw [List.length_append]; go_num, hide (by rw [HL.out, List.append_assoc]; rfl), by simp [hxl], hb4, ?_, ?_, e5⟩
            · rw [HFL.out, List.length_append, ← HF.out]; exact e1
            · rw [HPC.out]
              intro p hp
              rcases List.mem_append.1 hp with h | h
              · exact e2 p h
              · simp at h
                rcases h with rfl | rfl
                · exact e3
                · exact e4
          case measure => (have hlen := HLEN.out; simp [intOf]; omega)
end Go.Proofs.Ytpbgjldjipgfeaa
