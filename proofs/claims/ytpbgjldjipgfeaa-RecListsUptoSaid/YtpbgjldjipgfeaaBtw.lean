/- The walk of rec.Between. -/
import Derived.Test.YtpbgjldjipgfeaaBtwA
import Derived.Test.YtpbgjldjipgfeaaOrdT
import Derived.Test.YtpbgjldjipgfeaaCont
import Derived.Deep.Cut
import Derived.Deep.CutRange
namespace Go.Proofs.Ytpbgjldjipgfeaa
open Go.RowKit
set_option linter.unusedVariables false
set_option linter.unusedSimpArgs false

def inP (f t : Nat) (ks : List Int) (p : RcS × Nat) : Bool := decide (f ≤ p.2) && decide (p.2 < t) && (ks.isEmpty || ks.contains p.1.kind)

set_option maxHeartbeats 16000000 in
set_option maxRecDepth 100000 in
theorem recBetween {ps : List (RcS × Nat)} {v kv : Value} {F G : Nat → Prop} {w : World} {f t : Nat} {ks : List Int} (hr : RdP w F v ps) (hk : RdI w G kv ks) (hl : ps.length ≤ 10000000000) :
    Calls Try.prog 18 #[v, .int .u64 (f : Int), .int .u64 (t : Int), kv] w fun e w' => ∃ u qs, e = .returned u ∧ OwnP w' w.heap.size u qs (ps.filter (inP f t ks)) ∧ Chg Non w w' := by
  obtain ⟨qs0, hq0, hV, hE⟩ := hr
  obtain ⟨A, m, c, rfl⟩ := RdV.sl hV
  have hm : m = ps.length := by obtain ⟨_, A', c', e, _⟩ := hV; injection e
  obtain ⟨KA, kc, rfl, hkc, hkm⟩ := RdV.shape hk
  have hks : (ks = [] ∧ ((ks.length : Int) == 0) = true) ∨ (ks ≠ [] ∧ ((ks.length : Int) == 0) = false) := by rcases ks with _ | ⟨a, l⟩; exact .inl ⟨rfl, rfl⟩; exact .inr ⟨by simp, by simp; omega⟩
  have HK := hide hks
  have HM := hide hm
  clear hks hm
  have hcw0 := Chg.refl Non w
  go_enter Try.func18, Try.ntmps18
  go_wp2_with fail
  go_loopw [9, 14] (fun out iv wr => ∃ (l1 l2 : List (RcS × Nat)) (q1 q2 os : List Q4), iv = .int .i64 (l1.length : Int) ∧ Hid (ps = l1 ++ l2) ∧ Hid (qs0 = q1 ++ q2) ∧ q1.length = l1.length ∧ Hid (OwnP wr w.heap.size out os (l1.filter (inP f t ks))) ∧ Chg Non w wr) (fun _ iv _ => ps.length - (intOf iv).toNat)
  case atStart => exact ⟨[], ps, [], qs0, [], rfl, hide rfl, hide rfl, rfl, hide (OwnP.nil_ _ _), Chg.refl _ _⟩
  case round =>
    obtain ⟨l1, l2, q1, q2, os, rfl, HL, HQ, hx1, HO, hcw⟩ := hrel
    have hlen : ps.length = l1.length + l2.length := by rw [HL.out, List.length_append]
    have hlen2 : q2.length = l2.length := by have := hq0; rw [HQ.out, HL.out, List.length_append, List.length_append] at this; omega
    have hm := HM.out
    obtain ⟨oA, on, oc, rfl⟩ := row_sl HO.out.2.1
    rcases l2 with _ | ⟨p, l2⟩
    · have hge : ¬ ((l1.length : Int) < (m : Int)) := by simp at hlen; omega
      have hL : l1 = ps := by have := HL.out; simpa using this.symm
      have HF := hide hL
      clear hL
      go_wp2_with fail
      go_ret
      refine ⟨_, rfl, ⟨os, ?_⟩, hcw⟩
      have h := HO.out
      rw [HF.out] at h
      exact h
    · rcases q2 with _ | ⟨q, q2⟩
      · simp at hlen2
      · simp only [List.length_cons] at hlen hlen2
        have h1i : (l1.length : Int) < (m : Int) := by omega
        have h0i : (0 : Int) ≤ (l1.length : Int) := by omega
        have h9 : l1.length ≤ 10000000000 := by omega
        obtain ⟨x, tt⟩ := p
        obtain ⟨va, vb, vc, vd⟩ := q
        have hVr := hV.chg hcw (fun _ _ h => h)
        rw [HL.out, HQ.out, flP_app hx1, flP_cons] at hVr
        obtain ⟨ad, rfl, c0, c1, c2, c3, c4, c5, c6, c7, c8, c9, c10, c11⟩ := pos_at (k := l1.length) hVr (flP_len q1 l1 hx1)
        have hEr := hE.c0 hcw
        rw [HL.out, HQ.out] at hEr
        obtain ⟨hrx, hsx⟩ := hEr.at_ hx1
        obtain ⟨B1, m1, d1, rfl⟩ := hrx.ws.sl
        obtain ⟨B2, m2, d2, rfl⟩ := hrx.rs.sl
        obtain ⟨B3, m3, d3, rfl⟩ := RdV.sl hrx.sh
        obtain ⟨B4, m4, d4, rfl⟩ := hrx.rep.sl
        simp only at hrx hsx c0 c1 c2 c3 c4 c5 c6 c7 c8 c9 c10 c11
        have HLEN := hide (And.intro hlen (And.intro hlen2 (And.intro hx1 hm)))
        have HSX := hide hsx
        clear hVr hEr hlen hlen2 hx1 hm hsx
        go_upto_region 5 with fail
        clear c0 c1 c2 c3 c4 c5 c6 c7 c8 c9 c10 c11
        have hX := Blk.new wr 53 #[.int .i64 x.kind, .int .u64 (x.boot : Int), .int .u64 (x.sess : Int), .int .u64 (x.seq : Int), .slice B1 m1 d1, .slice B2 m2 d2, .bool x.commit, .slice B3 m3 d3, .slice B4 m4 d4, .int .u64 (x.id : Int), .string x.name, .int .u64 (tt : Int)]
        have hcA := (Chg.refl Non wr).alloc (.cells #[.int .i64 x.kind, .int .u64 (x.boot : Int), .int .u64 (x.sess : Int), .int .u64 (x.seq : Int), .slice B1 m1 d1, .slice B2 m2 d2, .bool x.commit, .slice B3 m3 d3, .slice B4 m4 d4, .int .u64 (x.id : Int), .string x.name, .int .u64 (tt : Int)] 53)
        obtain ⟨bp, hbp⟩ : ∃ b, b = wr.heap.size := ⟨_, rfl⟩
        rw [← hbp] at hX ⊢
        generalize World.alloc _ _ = wA at hX hcA ⊢
        have hbpn : ¬ (some bp = (Value.slice oA on oc).ownBlock) := fun e => by have := (World.ownsRow.lt HO.out.2.1 bp e.symm).2; omega
        clear hbp
        have HB := hide hX
        have e0 : wA.cell? ⟨bp, 0, none⟩ = some (.int .i64 x.kind) := hX.cell 0
        have e11 : wA.cell? ⟨bp, 11, none⟩ = some (.int .u64 (tt : Int)) := hX.cell 11
        clear hX
        go_cut [39] from 18 to 40 (fun b wx => b = .bool (inP f t ks (x, tt)) ∧ wx = wA)
        case first =>
          have hkA := RdI.c0 (RdI.c0 hk hcw) hcA
          by_cases h1 : f ≤ tt
          · have h1i : (f : Int) ≤ (tt : Int) := by omega
            have d1 : decide ((f : Int) ≤ (tt : Int)) = true := decide_eq_true h1i
            by_cases h2 : tt < t
            · have h2i : (tt : Int) < (t : Int) := by omega
              have d2 : decide ((tt : Int) < (t : Int)) = true := decide_eq_true h2i
              rcases HK.out with ⟨hk1, hk2⟩ | ⟨hk1, hk2⟩
              · have HR := hide (show inP f t ks (x, tt) = true by simp [inP, h1, h2, hk1])
                clear hk1
                go_wp2_with fail
                go_meet
                exact ⟨by rw [HR.out], rfl⟩
              · have HR := hide (show inP f t ks (x, tt) = ks.contains x.kind by simp [inP, h1, h2, hk1])
                clear hk1
                go_wp2_with (go_at_call 39; refine (intContains hkA).mono ?_; rintro e w' ⟨rfl, hw⟩; subst hw; obtain ⟨bb, hbb⟩ : ∃ bb, bb = ks.contains x.kind := ⟨_, rfl⟩; rw [← hbb]; rw [← hbb] at HR; clear hbb)
                all_goals
                  go_meet
                  exact ⟨by rw [HR.out], rfl⟩
            · have h2i : ¬ ((tt : Int) < (t : Int)) := by omega
              have d2 : decide ((tt : Int) < (t : Int)) = false := decide_eq_false h2i
              have HR := hide (show inP f t ks (x, tt) = false by simp [inP, h1, h2])
              go_wp2_with fail
              go_meet
              exact ⟨by rw [HR.out], rfl⟩
          · have h1i : ¬ ((f : Int) ≤ (tt : Int)) := by omega
            have d1 : decide ((f : Int) ≤ (tt : Int)) = false := decide_eq_false h1i
            have HR := hide (show inP f t ks (x, tt) = false by simp [inP, h1])
            go_wp2_with fail
            go_meet
            exact ⟨by rw [HR.out], rfl⟩
        case rest =>
          obtain ⟨rfl, hwx⟩ := hcut
          replace hwx := hwx.symm
          subst hwx
          clear e0 e11
          cases hin : inP f t ks (x, tt)
          · have HIN := hide hin
            clear hin
            go_wp2_with fail
            go_roundw
            case rel =>
              refine ⟨l1 ++ [(x, tt)], l2, q1 ++ [(.slice B1 m1 d1, .slice B2 m2 d2, .slice B3 m3 d3, .slice B4 m4 d4)], q2, os, by rw [List.length_append]; go_num, hide (by rw [HL.out, List.append_assoc]; rfl), hide (by rw [HQ.out, List.append_assoc]; rfl), by simp [HLEN.out.2.2.1], hide ?_, hcw.trans0 hcA⟩
              rw [List.filter_append, List.filter_cons_of_neg (by simp [HIN.out]), List.filter_nil, List.append_nil]
              exact HO.out.c0 hcA
            case measure => (have h := HLEN.out.1; have hm := HLEN.out.2.2.2; simp [intOf]; omega)
          · have HIN := hide hin
            clear hin
            go_upto_region 6 with fail
            obtain ⟨S, hSd⟩ : ∃ S : World → Prop, ∀ w', S w' ↔ Blk w' bp 53 #[.int .i64 x.kind, .int .u64 (x.boot : Int), .int .u64 (x.sess : Int), .int .u64 (x.seq : Int), .slice B1 m1 d1, .slice B2 m2 d2, .bool x.commit, .slice B3 m3 d3, .slice B4 m4 d4, .int .u64 (x.id : Int), .string x.name, .int .u64 (tt : Int)] := ⟨_, fun _ => Iff.rfl⟩
            have HSd := hide hSd
            have HS := hide ((hSd wA.drew).2 (HB.out.c0 (Chg.refl Non wA).drew))
            have hcD : Chg Non wr wA.drew := hcA.drew
            have hrD := hrx.c0 hcD
            clear hSd
            refine wp_region_T S 99 (by kernel_rfl) ?_
            refine AnyT.take (i := 0) (v := ?_) rfl (by kernel_rfl) (by kernel_rfl) (fun _ _ _ h => h) (by kernel_rfl) (by kernel_rfl) (Or.inl ⟨by rfl, ?_⟩) HS.out ?_
            rotate_left
            · (intro w9 h9; go_simp; try with_reducible rfl)
            try simp only [List.getElem_toArray, List.getElem_cons_succ, List.getElem_cons_zero, Act.put, List.setIfInBounds_toArray, List.set_cons_zero, List.set_cons_succ]
            refine AnyT.take (i := 1) (v := ?_) rfl (by kernel_rfl) (by kernel_rfl) (fun _ _ _ h => h) (by kernel_rfl) (by kernel_rfl) (Or.inl ⟨by rfl, ?_⟩) HS.out ?_
            rotate_left
            · (intro w9 h9; go_simp; try with_reducible rfl)
            try simp only [List.getElem_toArray, List.getElem_cons_succ, List.getElem_cons_zero, Act.put, List.setIfInBounds_toArray, List.set_cons_zero, List.set_cons_succ]
            refine AnyT.take (i := 2) (v := ?_) rfl (by kernel_rfl) (by kernel_rfl) (fun _ _ _ h => h) (by kernel_rfl) (by kernel_rfl) (Or.inl ⟨by rfl, ?_⟩) HS.out ?_
            rotate_left
            · (intro w9 h9; have y0 : w9.cell? ⟨bp, 0, none⟩ = some (.int .i64 x.kind) := ((HSd.out _).1 h9).cell 0; have y1 : w9.cell? ⟨bp, 1, none⟩ = some (.int .u64 (x.boot : Int)) := ((HSd.out _).1 h9).cell 1; have y2 : w9.cell? ⟨bp, 2, none⟩ = some (.int .u64 (x.sess : Int)) := ((HSd.out _).1 h9).cell 2; have y3 : w9.cell? ⟨bp, 3, none⟩ = some (.int .u64 (x.seq : Int)) := ((HSd.out _).1 h9).cell 3; have y4 : w9.cell? ⟨bp, 4, none⟩ = some (.slice B1 m1 d1) := ((HSd.out _).1 h9).cell 4; have y5 : w9.cell? ⟨bp, 5, none⟩ = some (.slice B2 m2 d2) := ((HSd.out _).1 h9).cell 5; have y6 : w9.cell? ⟨bp, 6, none⟩ = some (.bool x.commit) := ((HSd.out _).1 h9).cell 6; have y7 : w9.cell? ⟨bp, 7, none⟩ = some (.slice B3 m3 d3) := ((HSd.out _).1 h9).cell 7; have y8 : w9.cell? ⟨bp, 8, none⟩ = some (.slice B4 m4 d4) := ((HSd.out _).1 h9).cell 8; have y9 : w9.cell? ⟨bp, 9, none⟩ = some (.int .u64 (x.id : Int)) := ((HSd.out _).1 h9).cell 9; have y10 : w9.cell? ⟨bp, 10, none⟩ = some (.string x.name) := ((HSd.out _).1 h9).cell 10; go_simp; try with_reducible rfl)
            try simp only [List.getElem_toArray, List.getElem_cons_succ, List.getElem_cons_zero, Act.put, List.setIfInBounds_toArray, List.set_cons_zero, List.set_cons_succ]
            refine AnyT.take (i := 4) (v := ?_) rfl (by kernel_rfl) (by kernel_rfl) (fun _ _ _ h => h) (by kernel_rfl) (by kernel_rfl) (Or.inl ⟨by rfl, ?_⟩) HS.out ?_
            rotate_left
            · (intro w9 h9; go_simp; try with_reducible rfl)
            try simp only [List.getElem_toArray, List.getElem_cons_succ, List.getElem_cons_zero, Act.put, List.setIfInBounds_toArray, List.set_cons_zero, List.set_cons_succ]
            refine AnyT.take (i := 5) (v := ?_) rfl (by kernel_rfl) (by kernel_rfl) (fun _ _ _ h => h) (by kernel_rfl) (by kernel_rfl) (Or.inl ⟨by rfl, ?_⟩) HS.out ?_
            rotate_left
            · (intro w9 h9; have y11 : w9.cell? ⟨bp, 11, none⟩ = some (.int .u64 (tt : Int)) := ((HSd.out _).1 h9).cell 11; go_simp; try with_reducible rfl)
            try simp only [List.getElem_toArray, List.getElem_cons_succ, List.getElem_cons_zero, Act.put, List.setIfInBounds_toArray, List.set_cons_zero, List.set_cons_succ]
            refine AnyT.one (i := 3) (by kernel_rfl) rfl (fun K hK => ?_)
            go_simp
            go_wp2_with (go_at_call 40; refine (recTwin hrD HSX.out).mono ?_; rintro e w1 ⟨ua, ub, uc, ud, xs, ys, rfl, hT, hc1⟩; obtain ⟨⟨C1, r1, s1, rfl⟩, ⟨C2, r2, s2, rfl⟩, ⟨C3, r3, s3, rfl⟩, ⟨C4, r4, s4, rfl⟩⟩ := hT.sl2; unfold recC)
            have HS' := hide ((HSd.out w1).2 (((HSd.out _).1 HS.out).c0 hc1))
            clear HS
            have HS := HS'
            clear HS'
            refine hK.out _ _ (fun _ => HS.out) ?_
            clear hK K
            try simp only [List.getElem_toArray, List.getElem_cons_succ, List.getElem_cons_zero, Act.put, List.setIfInBounds_toArray, List.set_cons_zero, List.set_cons_succ]
            refine AnyT.take (i := 6) (v := ?_) rfl (by kernel_rfl) (by kernel_rfl) (fun _ _ _ h => h) (by kernel_rfl) (by kernel_rfl) (Or.inl ⟨by rfl, ?_⟩) HS.out ?_
            rotate_left
            · (intro w9 h9; go_simp; try with_reducible rfl)
            try simp only [List.getElem_toArray, List.getElem_cons_succ, List.getElem_cons_zero, Act.put, List.setIfInBounds_toArray, List.set_cons_zero, List.set_cons_succ]
            have hbl := Blk.new w1 53 #[.int .i64 x.kind, .int .u64 (x.boot : Int), .int .u64 (x.sess : Int), .int .u64 (x.seq : Int), .slice C1 r1 s1, .slice C2 r2 s2, .bool x.commit, .slice C3 r3 s3, .slice C4 r4 s4, .int .u64 (x.id : Int), .string x.name, .int .u64 (tt : Int)]
            have hcL := (hcD.trans0 hc1).alloc (.cells #[.int .i64 x.kind, .int .u64 (x.boot : Int), .int .u64 (x.sess : Int), .int .u64 (x.seq : Int), .slice C1 r1 s1, .slice C2 r2 s2, .bool x.commit, .slice C3 r3 s3, .slice C4 r4 s4, .int .u64 (x.id : Int), .string x.name, .int .u64 (tt : Int)] 53)
            have hcM := (Chg.refl Non w1).alloc (.cells #[.int .i64 x.kind, .int .u64 (x.boot : Int), .int .u64 (x.sess : Int), .int .u64 (x.seq : Int), .slice C1 r1 s1, .slice C2 r2 s2, .bool x.commit, .slice C3 r3 s3, .slice C4 r4 s4, .int .u64 (x.id : Int), .string x.name, .int .u64 (tt : Int)] 53)
            refine AnyT.one (i := 7) (by kernel_rfl) rfl (fun K hK => ?_)
            go_simp
            obtain ⟨bl, hbl0⟩ : ∃ b, b = w1.heap.size := ⟨_, rfl⟩
            rw [← hbl0] at hbl ⊢
            generalize World.alloc _ _ = w2 at hbl hcL hcM ⊢
            clear hbl0
            have HS' := hide ((HSd.out w2).2 (((HSd.out _).1 HS.out).c0 hcM))
            clear HS
            have HS := HS'
            clear HS'
            refine hK.out _ _ (fun _ => HS.out) ?_
            clear hK K
            try simp only [List.getElem_toArray, List.getElem_cons_succ, List.getElem_cons_zero, Act.put, List.setIfInBounds_toArray, List.set_cons_zero, List.set_cons_succ]
            have hO2 := HO.out.c0 hcL
            have hfl : (l1.filter (inP f t ks)).length ≤ l1.length := List.length_filter_le _ _
            have hn9 : (l1.filter (inP f t ks)).length + 1 ≤ 100000000000 := by have h := HLEN.out.1; omega
            have hsL : w.heap.size ≤ w2.heap.size := Nat.le_trans hcw.size hcL.size
            have hrow := hO2.2.1
            have HO2 := hide hO2
            clear hO2 hfl
            refine AnyT.one (i := 8) (by kernel_rfl) rfl (fun K hK => ?_)
            refine step_P1 rfl _ _ rfl hrow rfl ⟨_, _, _, rfl⟩ ⟨_, _, _, rfl⟩ ⟨_, _, _, rfl⟩ ⟨_, _, _, rfl⟩ hbl rfl hn9 hsL ?_
            intro v3 w3 hO3 hg3
            obtain ⟨A3, n3, k3, rfl⟩ := row_sl hO3
            have hg4 := Chg.of_grown hg3
            have hbb := ((HSd.out _).1 HS.out)
            have HS' := hide ((HSd.out w3).2 (hbb.chg hg4 hbpn))
            clear HS hbb
            have HS := HS'
            clear HS'
            refine hK.out _ _ (fun _ => HS.out) ?_
            clear hK K
            try simp only [List.getElem_toArray, List.getElem_cons_succ, List.getElem_cons_zero, Act.put, List.setIfInBounds_toArray, List.set_cons_zero, List.set_cons_succ]
            refine AnyT.take (i := 9) (v := ?_) rfl (by kernel_rfl) (by kernel_rfl) (fun _ _ _ h => h) (by kernel_rfl) (by kernel_rfl) (Or.inl ⟨by rfl, ?_⟩) HS.out ?_
            rotate_left
            · (intro w9 h9; go_simp; try with_reducible rfl)
            try simp only [List.getElem_toArray, List.getElem_cons_succ, List.getElem_cons_zero, Act.put, List.setIfInBounds_toArray, List.set_cons_zero, List.set_cons_succ]
            refine AnyT.nil (by kernel_rfl) ?_
            have hTw := (hT.c0 hcM).low (show w.heap.size ≤ wA.drew.heap.size from Nat.le_trans hcw.size hcD.size)
            have HF := hide (OwnP.snoc (x := x) (t := tt) HO2.out hTw hO3 hg4)
            have hcF := (hcw.trans0 hcL).trans hg4 (fun k hk e => by have := (World.ownsRow.lt HO2.out.2.1 k e.symm).1; omega)
            go_wp2_with fail
            go_roundw
            case rel =>
              refine ⟨l1 ++ [(x, tt)], l2, q1 ++ [(.slice B1 m1 d1, .slice B2 m2 d2, .slice B3 m3 d3, .slice B4 m4 d4)], q2, os ++ [(.slice C1 r1 s1, .slice C2 r2 s2, .slice C3 r3 s3, .slice C4 r4 s4)], by rw [List.length_append]; go_num, hide (by rw [HL.out, List.append_assoc]; rfl), hide (by rw [HQ.out, List.append_assoc]; rfl), by simp [HLEN.out.2.2.1], hide ?_, hcF⟩
              rw [List.filter_append, List.filter_cons_of_pos (by simp [HIN.out]), List.filter_nil]
              exact HF.out
            case measure => (have h := HLEN.out.1; have hm := HLEN.out.2.2.2; simp [intOf]; omega)
end Go.Proofs.Ytpbgjldjipgfeaa
