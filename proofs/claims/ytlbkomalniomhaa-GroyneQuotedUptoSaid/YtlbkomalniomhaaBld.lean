/- The walks of strings.Builder's copyCheck, WriteByte and Write; its String, laid off the shelf of contracts by the shelf's own command. -/
import Derived.Test.YtlbkomalniomhaaBase
import Derived.Test.YtlbkomalniomhaaSlc
import Derived.Shelf.Strings.Builder1
import Derived.Shelf.Small.Strs
import Derived.Shelf.Strings.Search1
namespace Go.Proofs.Ytlbkomalniomhaa
open Go.RowKit Go.Shelf

def lays169_ren : Go.Shelf.Ren := ⟨fun | 169 => 14 | n => n, fun | 70 => 33 | 9 => 9 | 0 => 0 | 72 => 35 | 37 => 23 | 127 => 47 | 3 => 3 | 5 => 5 | n => n, fun | n => n⟩
theorem lays169 : Go.Proofs.Lays.n169 Try.prog lays169_ren := {
  mixed := by kernel_rfl
  f169 := Try.func14.trans (congrArg some (by kernel_rfl))
  t0 := Try.underlying0
  a0 := Try.isAgg0
  z0 := Try.sizeOf0
  v0 := Try.zeroValue0
  t3 := Try.underlying3
  a3 := Try.isAgg3
  z3 := Try.sizeOf3
  v3 := Try.zeroValue3
  t9 := Try.underlying9
  a9 := Try.isAgg9
  z9 := Try.sizeOf9
  v9 := Try.zeroValue9
  t37 := Try.underlying23
  a37 := Try.isAgg23
  z37 := Try.sizeOf23
  v37 := Try.zeroValue23
  t70 := Try.underlying33
  a70 := Try.isAgg33
  z70 := Try.sizeOf33
  v70 := Try.zeroValue33
  t72 := Try.underlying35
  a72 := Try.isAgg35
  z72 := Try.sizeOf35
  v72 := Try.zeroValue35
  t127 := Try.underlying47
  a127 := Try.isAgg47
  z127 := Try.sizeOf47
  v127 := Try.zeroValue47 }
theorem Builder_Extra_169 : Builder.Extra Try.prog lays169_ren := {
  sizeBuilder := by kernel_rfl
  liesBuilder := by kernel_rfl
  t5 := Try.underlying5
  a5 := Try.isAgg5
  z5 := Try.sizeOf5
  v5 := Try.zeroValue5
  infoByte := by kernel_rfl
  cellsByte := by kernel_rfl
  sizeByte := by kernel_rfl
  neB5 := by decide }
theorem bldStringAny (B b : Nat) (l : List UInt8) (w : World) (h : Lib.IsBuilder 35 5 B b (Lib.byteCells l) w) (hBw : B ≤ w.heap.size) :
    Calls Try.prog 14 #[.pointer (some ⟨b, 0, none⟩)] w fun e w' => e = .returned (.string ⟨l.toArray⟩) ∧ Below B w w' := Any.Builder_String_any lays169 Builder_Extra_169 B b l w h hBw

theorem OwnB.slc {w : World} {base : Nat} {v : Value} {l : List UInt8} (h : OwnB w base v l) : ∃ A n c, v = .slice A n c := by
  obtain ⟨A, c, e, _⟩ := h.shape
  exact ⟨A, _, c, e⟩
/-- the block b is a builder that holds l; its first cell is p, its slice v -/
structure Bld (w : World) (B b : Nat) (p v : Value) (l : List UInt8) : Prop where
  le : B ≤ b
  blk : Blk w b 35 #[p, v]
  own : OwnB w B v l
  ne : v.ownBlock ≠ some b
  fst : p = .pointer none ∨ p = .pointer (some ⟨b, 0, none⟩)
section
variable {w w' : World} {S : Nat → Prop} {B b : Nat} {p v : Value} {l m : List UInt8}
theorem Bld.chg (h : Bld w B b p v l) (hc : Chg S w w') (hb : ¬ S b) (hv : ∀ k, v.ownBlock = some k → ¬ S k) : Bld w' B b p v l :=
  ⟨h.le, h.blk.chg hc hb, h.own.chg hc hv, h.ne, h.fst⟩
theorem Bld.c0 (h : Bld w B b p v l) (hc : Chg Non w w') : Bld w' B b p v l := h.chg hc (fun h => h) fun _ _ h => h
theorem Bld.al (h : Bld w B b p v l) (o : Obj) : Bld (w.alloc o) B b p v l := h.c0 ((Chg.refl Non w).alloc o)
theorem Bld.cell0 (h : Bld w B b p v l) : w.cell? ⟨b, 0, none⟩ = some p := by rw [h.blk.cell]; rfl
theorem Bld.cell1 (h : Bld w B b p v l) : w.cell? ⟨b, 1, none⟩ = some v := by rw [h.blk.cell]; rfl
theorem Bld.shape (h : Bld w B b p v l) : w.shape? b = some (35, 2) := by
  have := h.blk
  unfold Blk at this
  simp [World.shape?, this]
theorem Bld.used (h : Bld w B b p v l) : Bld (w.setCell ⟨b, 0, none⟩ (.pointer (some ⟨b, 0, none⟩))) B b (.pointer (some ⟨b, 0, none⟩)) v l :=
  ⟨h.le, h.blk.set_ 0 _, h.own.chg ((Chg.refl (fun k => k = b) w).setCell (p := ⟨b, 0, none⟩) (fun _ => rfl) _) fun k hk e => h.ne (e ▸ hk), h.ne, .inr rfl⟩
theorem Bld.put {w2 : World} (h : Bld w B b p v l) {v' : Value} (hg : w.grownBy w2 v.ownBlock) (hat : v'.ownBlock = v.ownBlock ∨ v'.ownBlock = some w.heap.size) (hown : OwnB w2 B v' m) :
    Bld (w2.setCell ⟨b, 1, none⟩ v') B b p v' m := by
  have hb2 : Blk w2 b 35 #[p, v] := h.blk.chg (Chg.of_grown hg) fun e => h.ne e.symm
  have hne : v'.ownBlock ≠ some b := fun e => by
    rcases hat with e' | e'
    · exact h.ne (e' ▸ e)
    · rw [e'] at e; injection e with e; have := h.blk.lt; omega
  exact ⟨h.le, hb2.set_ 1 _, hown.chg ((Chg.refl (fun k => k = b) w2).setCell (p := ⟨b, 1, none⟩) (fun _ => rfl) _) fun k hk e => hne (e ▸ hk), hne, h.fst⟩
theorem Bld.is (h : Bld w B b p v l) : Lib.IsBuilder 35 5 B b (Lib.byteCells l) w := by
  have hb : Lib.byteCells l = bvs l := rfl
  have h1 : Lib.BuilderAt 35 5 B b p (Lib.byteCells l) w := by
    refine ⟨h.le, v, h.blk, ?_, h.ne⟩
    rw [hb, bvs_length]
    exact h.own
  rcases h.fst with rfl | rfl
  · exact .inl h1
  · exact .inr h1
end
theorem bld_c1 {w w2 : World} {B b : Nat} {p v : Value} {l : List UInt8} (h : Bld w B b p v l) (hg : w.grownBy w2 v.ownBlock) : w2.cell? ⟨b, 1, none⟩ = some v ∧ w2.frozen? ⟨b, 1, none⟩ = false := by
  have hb2 : Blk w2 b 35 #[p, v] := h.blk.chg (Chg.of_grown hg) fun e => h.ne e.symm
  exact ⟨by rw [hb2.cell]; rfl, hb2.frozen 1⟩
/-- from B on -/
abbrev From (B : Nat) : Nat → Prop := fun k => B ≤ k
theorem Chg.from_below {B : Nat} {w w' : World} (h : Below B w w') : Chg (From B) w w' :=
  ⟨h.os, h.tape, h.output, h.size, fun k _ hn => h.block k (Nat.lt_of_not_le hn)⟩
theorem bldNew (w : World) : Bld (w.alloc (.cells #[.pointer none, .slice none 0 0] 35)) w.heap.size w.heap.size (.pointer none) (.slice none 0 0) [] :=
  ⟨Nat.le_refl _, Blk.new w _ _, OwnB.nil_ _ _, by simp [Value.ownBlock], .inl rfl⟩

theorem info_bld : (Try.prog.info? 35).map (·.size) = some 2 := by kernel_rfl
set_option maxHeartbeats 1000000 in
set_option maxRecDepth 100000 in
theorem bldCheck {w : World} {B b : Nat} {p v : Value} {l : List UInt8} (h : Bld w B b p v l) :
    Calls Try.prog 21 #[.pointer (some ⟨b, 0, none⟩)] w fun e w' => e = .returned (.tuple #[]) ∧ Bld w' B b (.pointer (some ⟨b, 0, none⟩)) v l ∧ Chg (fun k => k = b) w w' := by
  obtain ⟨j, hj, hjs⟩ := Option.map_eq_some_iff.1 info_bld
  have h0 := h.cell0
  have hsh := h.shape
  have hfz := h.blk.frozen 0
  rcases h.fst with rfl | rfl
  · have hu := h.used
    have hc := (Chg.refl (fun k => k = b) w).setCell (p := ⟨b, 0, none⟩) (fun _ => rfl) (.pointer (some ⟨b, 0, none⟩))
    clear h
    go_enter Try.func21, Try.ntmps21
    go_wp2
    rw [Lib.run_to_unsafe w ⟨b, 0, none⟩ Try.underlying33 Try.underlying49 hj (by rw [hjs]; decide) hsh (Nat.zero_lt_succ 1)]
    simp only [Result.andThen]
    rw [Oper.upon_value]
    go_wp2
    rw [run_callFunc_extern Try.func24 (by kernel_rfl) (by kernel_rfl) (by kernel_rfl) (e := Extern.AbiNoEscape.same) (by kernel_rfl)]
    rw [Lib.run_noEscape]
    simp only [Result.andThen]
    rw [Oper.upon_value]
    go_wp2
    rw [Lib.run_from_unsafe w ⟨b, 0, none⟩ Try.underlying49 Try.underlying33 hj hsh (by kernel_rfl)]
    simp only [Result.andThen]
    rw [Oper.upon_value]
    go_wp2
    exact bodyPost_end (results_none rfl _ _ _) rfl ⟨rfl, hu, hc⟩
  · have hc := Chg.refl (fun k => k = b) w
    go_enter Try.func21, Try.ntmps21
    go_wp2
    rw [Lib.run_neq_ptr_same _ _ Try.underlying33 hj]
    simp only [Result.andThen]
    rw [Oper.upon_value]
    go_wp2
    exact bodyPost_end (results_none rfl _ _ _) rfl ⟨rfl, h, hc⟩

set_option maxHeartbeats 1000000 in
set_option maxRecDepth 100000 in
theorem bldByte {w : World} {B b : Nat} {p v : Value} {l : List UInt8} {c : UInt8} (h : Bld w B b p v l) (hl : l.length + 1 ≤ 140737488355328) :
    Calls Try.prog 12 #[.pointer (some ⟨b, 0, none⟩), .int .u8 (c.toNat : Int)] w fun e w' => e = .returned .nilIface ∧ ∃ v', Bld w' B b (.pointer (some ⟨b, 0, none⟩)) v' (l ++ [c]) ∧ Chg (From B) w w' := by
  have hck := bldCheck h
  have hle := h.le
  clear h
  go_enter Try.func12, Try.ntmps12
  go_wp2_with fail
  refine hck.mono ?_
  rintro e w1 ⟨rfl, h, k1⟩
  have c1 := h.cell1
  have hvl := h.own.lt
  have ha := h.al (.cells #[.int .u8 (c.toNat : Int)] 5)
  have hlit := (own_one w1 c _ rfl).rd
  have hlen : l.length + ([c] : List UInt8).length ≤ 140737488355328 := by simpa using hl
  have hBw : B ≤ (w1.alloc (.cells #[.int .u8 (c.toNat : Int)] 5)).heap.size := by have := h.blk.lt; have := h.le; simp; omega
  have kk : Chg (From B) w (w1.alloc (.cells #[.int .u8 (c.toNat : Int)] 5)) := (k1.mono (S' := From B) fun _ _ e => by rw [e]; exact hle).alloc _
  clear hck h k1
  go_wp2_with (at_builtin; refine append_B rfl _ _ rfl ha.own rfl hlit rfl hlen hBw ?_; intro v2 w2 hown2 hg2 hat2; obtain ⟨A2, n2, c2, hv2⟩ := OwnB.slc hown2; subst hv2; have hp := ha.put hg2 hat2 hown2; obtain ⟨hcc, hcf⟩ := bld_c1 ha hg2)
  go_ret
  refine ⟨rfl, _, hp, ?_⟩
  exact (kk.grown hg2 fun k hk _ => (hvl k hk).1).setCell (p := ⟨b, 1, none⟩) (fun _ => hle) _

set_option maxHeartbeats 1000000 in
set_option maxRecDepth 100000 in
theorem bldWrite {w : World} {B b : Nat} {p v y : Value} {l m : List UInt8} {F : Nat → Prop} (h : Bld w B b p v l) (hr : RdB w F y m) (hF : ∀ k, F k → k ≠ b) (hl : l.length + m.length ≤ 140737488355328) :
    Calls Try.prog 13 #[.pointer (some ⟨b, 0, none⟩), y] w fun e w' => e = .returned (.tuple #[.int .i64 (m.length : Int), .nilIface]) ∧ ∃ v', Bld w' B b (.pointer (some ⟨b, 0, none⟩)) v' (l ++ m) ∧ Chg (From B) w w' := by
  have hck := bldCheck h
  have hle := h.le
  have hlen8 := fun (w' : World) (ty : TypeId) => run_len8 hr w' ty
  clear h
  go_enter Try.func13, Try.ntmps13
  go_wp2_with fail
  refine hck.mono ?_
  rintro e w1 ⟨rfl, h, k1⟩
  have c1 := h.cell1
  have hvl := h.own.lt
  have hr1 := hr.chg k1 hF
  have hBw : B ≤ w1.heap.size := by have := h.blk.lt; have := h.le; omega
  have kk : Chg (From B) w w1 := k1.mono (S' := From B) fun _ _ e => by rw [e]; exact hle
  clear hck k1 hr
  go_wp2_with (at_builtin; refine append_B rfl _ _ rfl h.own rfl hr1 rfl hl hBw ?_; intro v2 w2 hown2 hg2 hat2; obtain ⟨A2, n2, c2, hv2⟩ := OwnB.slc hown2; subst hv2; have hp := h.put hg2 hat2 hown2; obtain ⟨hcc, hcf⟩ := bld_c1 h hg2)
  go_ret2
  refine ⟨rfl, _, hp, ?_⟩
  exact (kk.grown hg2 fun k hk _ => (hvl k hk).1).setCell (p := ⟨b, 1, none⟩) (fun _ => hle) _
end Go.Proofs.Ytlbkomalniomhaa
