/- The walks of pack's small functions: Compare, In, After, and of the library's that they call. -/
import Derived.Test.YtfgecgmgbngeaaaGreatRefM
set_option linter.unusedVariables false
set_option linter.unusedSimpArgs false
set_option maxRecDepth 100000
namespace Go.Proofs.YtfgecgmgbngeaaaGreat
open Go.RowKit

theorem run_loadBytes {P : Program} {w : World} (ad : Addr) (l : List UInt8) : ∀ (n k : Nat) (acc : ByteArray), k + n = l.length →
    (∀ j, j < l.length → w.cell? (ad.add j) = some (bv (l.getD j 0))) →
    (Extern.Bytes.loadBytes (ad.add k) n acc).run P w = .ok ⟨acc.data ++ (l.drop k).toArray⟩ w
  | 0, k, acc, h, _ => by
    have : l.drop k = [] := List.drop_of_length_le (by omega)
    simp [Extern.Bytes.loadBytes, this]
  | n + 1, k, acc, h, hc => by
    have hk : k < l.length := by omega
    have hcell := hc k hk
    have ih := run_loadBytes (P := P) ad l n (k + 1) (acc.push l[k]) (by omega) hc
    rw [List.getD_eq_getElem?_getD, List.getElem?_eq_getElem hk] at hcell
    have e : l.drop k = l[k] :: l.drop (k + 1) := List.drop_eq_getElem_cons hk
    simp only [Option.getD_some, bv] at hcell
    have hl : (load (ad.add k)).run P w = .ok (.int .u8 (l[k].toNat : Int)) w := by simp [go_sem, hcell]
    unfold Extern.Bytes.loadBytes
    simp only [Sem.run_bind, hl, Result.andThen_ok, add_of_add, Int.toNat_natCast, Nat.toUInt8_eq, UInt8.ofNat_toNat, ih, e]
    congr 1
    simp [ByteArray.push]

theorem run_bytesOf {P : Program} {w : World} {v : Value} {l : List UInt8} {F : Nat → Prop} (h : RdB w F v l) :
    (Extern.Bytes.bytesOf v).run P w = .ok ⟨l.toArray⟩ w := by
  obtain ⟨A, c, rfl, hc, hm⟩ := h.shape
  rcases A with _ | ad
  · obtain rfl := h.is_nil
    rfl
  · have := run_loadBytes (P := P) (w := w) ad l l.length 0 .empty (by omega) (fun j hj => by
      obtain ⟨ad', h1, _, h2⟩ := h.at_ hj
      injection h1 with h1; subst h1
      rw [h2, List.getD_eq_getElem?_getD, List.getElem?_eq_getElem hj]; rfl)
    have e0 : ad.add 0 = ad := by simp [Addr.add]
    rw [e0] at this
    show (Extern.Bytes.loadBytes ad l.length .empty).run P w = _
    rw [this]
    simp

theorem run_compareBytes {P : Program} {w : World} {v u : Value} {xs ys : List UInt8} {F G : Nat → Prop} (ha : RdB w F v xs) (hb : RdB w G u ys) :
    (Extern.BytealgCompare.compare #[v, u]).run P w = .ok (.int .i64 (cmpB xs ys)) w := by
  change Sem.run P (do pure (goInt (Extern.BytealgCompare.cmp (← Extern.Bytes.bytesOf v) (← Extern.Bytes.bytesOf u)))) w = _
  simp only [Sem.run_bind, run_bytesOf ha, run_bytesOf hb, Sem.run_pure, Result.andThen]
  rw [Lib.cmp_eq]
  rfl

set_option maxHeartbeats 400000 in
theorem bytesCompare {v u : Value} {xs ys : List UInt8} {F G : Nat → Prop} {w : World} (ha : RdB w F v xs) (hb : RdB w G u ys) :
    Calls Tryz.prog 134 #[v, u] w fun e w' => e = .returned (.int .i64 (cmpB xs ys)) ∧ ∃ k, w' = w.drewN k := by
  go_enter Tryz.func134, Tryz.ntmps134
  go_wp2
  rw [run_callFunc_extern (f := 148) Tryz.func148 (by kernel_rfl) (by kernel_rfl) (by kernel_rfl) (e := Extern.BytealgCompare.compare) (by kernel_rfl), run_compareBytes ha hb]
  simp only [Result.andThen]
  rw [Oper.upon_value]
  go_wp2
  go_ret
  exact ⟨rfl, 0, rfl⟩
set_option maxHeartbeats 400000 in
theorem packCompare {v u : Value} {xs ys : List UInt8} {F G : Nat → Prop} {w : World} (ha : RdB w F v xs) (hb : RdB w G u ys) :
    Calls Tryz.prog 111 #[v, u] w fun e w' => e = .returned (.int .i64 (cmpB xs ys)) ∧ ∃ k, w' = w.drewN k := by
  go_enter Tryz.func111, Tryz.ntmps111
  go_wp2_with (go_at_call 134; refine (bytesCompare ha hb).mono ?_; rintro e w' ⟨rfl, k, rfl⟩)
  go_ret
  exact ⟨rfl, _, rfl⟩
/-- nil comes to nil -/
def isNilS (v : Value) : Prop := ∃ n c, v = .slice none n c

set_option maxHeartbeats 400000 in
theorem bytesClone {v : Value} {l : List UInt8} {F : Nat → Prop} {w : World} (hr : RdB w F v l) (hl : l.length ≤ 140737488355328) :
    Calls Tryz.prog 40 #[v] w fun e w' => ∃ u, e = .returned u ∧ OwnB w' w.heap.size u l ∧ Chg Non w w' := by
  obtain ⟨A, c, rfl, hc, hm⟩ := hr.shape
  rcases A with _ | ad
  · obtain rfl := hr.is_nil
    have h0 := Lib.run_eql_slice_nil (P := Tryz.prog)
    go_enter Tryz.func40, Tryz.ntmps40
    go_wp2
    go_ret
    exact ⟨_, rfl, OwnB.nil_ _ _, Chg.refl _ _⟩
  · have h0 := fun w => Lib.run_eql_slice_nil (P := Tryz.prog) w 30 5 (some ad) l.length c 0 0 Tryz.underlying30
    go_enter Tryz.func40, Tryz.ntmps40
    go_wp2_with (at_builtin; refine append_B rfl _ _ rfl (own_zero w) rfl (hr.al _) rfl (by simpa using hl) (by simp) ?_; intro v1 w1 hown1 hg1 hat1)
    go_ret
    exact ⟨v1, rfl, hown1, ((Chg.refl Non w).alloc _).own hg1 (by simp [Value.ownBlock])⟩
end Go.Proofs.YtfgecgmgbngeaaaGreat
