/- The walks of gate's Retry, Logged and Tick. -/
import Derived.Test.YtlcnlcjfnpicgaaGate2
namespace Go.Proofs.Ytlcnlcjfnpicgaa
open Go.RowKit Go.Maps

theorem GateAt.gm {w : World} {base g B : Nat} {rv : Value} {s : GSt} (h : GateAt w base g (.map (some B)) rv s) : GMap w B s.ms := by
  rcases h.map with ⟨he, _⟩ | ⟨B', e, _, _, _, hm⟩
  · cases he
  · injection e with e; injection e with e; subst e; exact hm
theorem info_send : (Try.prog.info? 60).map (fun i => (i.zero.map (fun z => z.cells.size), i.size, i.bytes)) = some (some 13, 13, 144) := by kernel_rfl
def sendC (s : GSt) (i : Nat) : List Value :=
  [.int .i64 (i : Int), .int .i64 6, .int .u64 0, .int .u64 0, .int .u64 0, .int .u64 0, .int .u64 0, .int .u64 0, .slice none 0 0, .bool false, .slice none 0 0, .int .u64 (s.id : Int), .string s.name]
def sendsC (s : GSt) (l : List Nat) : List Value := l.flatMap (sendC s)
theorem sendsC_snoc (s : GSt) (l : List Nat) (i : Nat) : sendsC s (l ++ [i]) = sendsC s l ++ sendC s i := by simp [sendsC]
/-- the shards whose marks are wanting, of the first k -/
def missS (ms : List (Option Nat)) (k : Nat) : List Nat := (List.range k).filter fun i => !mh ms i
theorem missS_succ (ms : List (Option Nat)) (k : Nat) : missS ms (k + 1) = missS ms k ++ (if mh ms k then [] else [k]) := by
  rw [missS, List.range_succ, List.filter_append, ← missS]
  congr 1
  cases h : mh ms k <;> simp [h]
theorem missS_len (ms : List (Option Nat)) (k : Nat) : (missS ms k).length ≤ k := by
  rw [missS]
  exact Nat.le_trans (List.length_filter_le _ _) (by simp)
def retryS (s : GSt) : List Nat := if s.shut && s.cut then missS s.ms s.n else []
theorem step_send {w : World} {ops : Array Oper} {o : Oper} {a : Act} {K : Act → World → Prop} {Q : Exit → Act → World → Prop} {E : Prop} (hgd : o.guard = none) (sx x : Operand)
    (ho : o.op = .call { callee := .builtin .append, args := #[sx, x], argTypes := #[37, 37] })
    {base : Nat} {v : Value} {s : GSt} {l : List Nat} (hown : w.ownsRow base 60 13 v l.length (sendsC s l)) (hv : a.eval sx = v)
    {gl i : Nat} {t : TypeId} (hl : Blk w gl t (sendC s i).toArray) (hy : a.eval x = .slice (some ⟨gl, 0, none⟩) 1 1)
    (hb : l.length ≤ 1000000) (hbase : base ≤ w.heap.size)
    (h : ∀ v' w', w'.ownsRow base 60 13 v' (l ++ [i]).length (sendsC s (l ++ [i])) → w.grownBy w' v.ownBlock → (v'.ownBlock = v.ownBlock ∨ v'.ownBlock = some w.heap.size) → K (a.put o.dst v') w') :
    if Region.wanted o (yielded ops a.tmps) = true then Oper.wp Try.prog o a w K Q else E := by
  have hw : Region.wanted o (yielded ops a.tmps) = true := by simp [Region.wanted, hgd]
  rw [if_pos hw]
  subst hv
  obtain ⟨ti, hi, he⟩ := Option.map_eq_some_iff.1 info_send
  simp only [Prod.mk.injEq] at he
  obtain ⟨hz, h1, h2⟩ := he
  obtain ⟨z, hz, hzs⟩ := Option.map_eq_some_iff.1 hz
  have hr : RdV w (fun _ => True) 13 (.slice (some ⟨gl, 0, none⟩) 1 1) 1 (sendC s i) := ⟨rfl, _, 1, rfl, Nat.le_refl _, by simp [maxLen], fun _ => ⟨_, rfl, trivial, fun j u hu => by
    rw [add_none, hl.cell, Nat.zero_add]
    simpa using hu⟩⟩
  refine wp_append_rd w sx x _ ho base 60 ti _ 13 144 Try.underlying37 hi hz h1 h2 hzs (by omega) l.length (sendsC s l) hown _ 1 (sendC s i) (hy ▸ hr) (fun u hu => by
    simp only [sendC, List.mem_cons, List.not_mem_nil, or_false] at hu
    rcases hu with rfl | rfl | rfl | rfl | rfl | rfl | rfl | rfl | rfl | rfl | rfl | rfl | rfl <;> rfl) (by simp only [maxLen]; omega) (by omega) hbase ?_
  intro v' w' hown' hg _ hat
  refine h v' w' ?_ hg hat
  rw [List.length_append, sendsC_snoc]
  exact hown'

set_option maxHeartbeats 2000000 in
set_option maxRecDepth 100000 in
theorem gateRetry {w : World} {base g : Nat} {mp rv : Value} {s : GSt} (h : GateAt w base g mp rv s) :
    Calls Try.prog 13 #[.pointer (some ⟨g, 0, none⟩)] w fun e w' => ∃ v, e = .returned v ∧ w'.ownsRow w.heap.size 60 13 v (retryS s).length (sendsC s (retryS s)) ∧ Chg Non w w' := by
  have c2 : w.cell? ⟨g, 2, none⟩ = some (.bool s.shut) := by rw [h.blk.cell]; rfl
  have c14 : w.cell? ⟨g, 14, none⟩ = some (.bool s.cut) := by rw [h.blk.cell]; rfl
  rcases hs : s.shut with _ | _
  · have HR := hide (show retryS s = [] by rw [retryS, hs]; rfl)
    rw [hs] at c2
    clear h hs c14
    go_enter Try.func13, Try.ntmps13
    go_wp2_with fail
    go_loopw [3, 4] (fun ov iv wr => ov = .slice none 0 0 ∧ iv = .int .i64 0 ∧ wr = w) (fun _ _ _ => 0)
    case atStart => exact ⟨rfl, rfl, rfl⟩
    case round =>
      obtain ⟨rfl, rfl, rfl⟩ := hrel
      go_wp2_with fail
      go_ret
      rw [HR.out]
      exact ⟨_, rfl, World.ownsRow_nil _ _ _ _, Chg.refl _ _⟩
  · rw [hs] at c2
    rcases hc : s.cut with _ | _
    · have HR := hide (show retryS s = [] by rw [retryS, hs, hc]; rfl)
      rw [hc] at c14
      clear h hs hc
      go_enter Try.func13, Try.ntmps13
      go_wp2_with fail
      go_loopw [3, 4] (fun ov iv wr => ov = .slice none 0 0 ∧ iv = .int .i64 0 ∧ wr = w) (fun _ _ _ => 0)
      case atStart => exact ⟨rfl, rfl, rfl⟩
      case round =>
        obtain ⟨rfl, rfl, rfl⟩ := hrel
        go_wp2_with fail
        go_ret
        rw [HR.out]
        exact ⟨_, rfl, World.ownsRow_nil _ _ _ _, Chg.refl _ _⟩
    · have HR := hide (show retryS s = missS s.ms s.n by rw [retryS, hs, hc]; rfl)
      rw [hc] at c14
      have hmp : ∃ B, mp = .map (some B) := by
        rcases h.map with ⟨_, hn⟩ | ⟨B, e, _⟩
        · rw [hs] at hn; cases hn
        · exact ⟨B, e⟩
      obtain ⟨B, rfl⟩ := hmp
      have hn20 := h.n20
      have hSH := hide hs
      have hCU := hide hc
      have HG0 := hide h
      clear c2 c14 hs hc h
      go_enter Try.func13, Try.ntmps13
      go_wp2_with fail
      go_loopw [3, 4] (fun ov iv wr => ∃ (k : Nat), iv = .int .i64 (k : Int) ∧ k ≤ s.n ∧ wr.ownsRow w.heap.size 60 13 ov (missS s.ms k).length (sendsC s (missS s.ms k)) ∧ Chg Non w wr) (fun _ iv _ => s.n - (intOf iv).toNat)
      case atStart => exact ⟨0, rfl, Nat.zero_le _, World.ownsRow_nil _ _ _ _, Chg.refl _ _⟩
      case round =>
        obtain ⟨k, rfl, hk, hO, hcw⟩ := hrel
        have h := HG0.out.c0 hcw
        have c0 : wr.cell? ⟨g, 0, none⟩ = some (.int .i64 (s.n : Int)) := by rw [h.blk.cell]; rfl
        have c2 : wr.cell? ⟨g, 2, none⟩ = some (.bool true) := by rw [h.blk.cell, ← hSH.out]; rfl
        have c14 : wr.cell? ⟨g, 14, none⟩ = some (.bool true) := by rw [h.blk.cell, ← hCU.out]; rfl
        have c16 : wr.cell? ⟨g, 16, none⟩ = some (.map (some B)) := by rw [h.blk.cell]; rfl
        by_cases h1 : k < s.n
        · have hd1 : decide ((k : Int) < (s.n : Int)) = true := decide_eq_true (by omega)
          have hlk := h.gm.look (i := k) (by rw [h.len]; exact h1) (by omega)
          have hms := missS_succ s.ms k
          cases hmh : mh s.ms k
          · rw [hmh] at hms hlk
            have HMS := hide hms
            have hml := missS_len s.ms k
            have c12 : wr.drew.cell? ⟨g, 12, none⟩ = some (.int .u64 (s.id : Int)) := h.blk.cell 12
            have c13 : wr.drew.cell? ⟨g, 13, none⟩ = some (.string s.name) := h.blk.cell 13
            have ka := ((Chg.refl Non wr).drew).alloc (.cells (sendC s k).toArray 60)
            have hblk := Blk.new wr.drew 60 (sendC s k).toArray
            have hOA : (wr.drew.alloc (.cells (sendC s k).toArray 60)).ownsRow w.heap.size 60 13 u3 (missS s.ms k).length (sendsC s (missS s.ms k)) := by
              refine ⟨hO.1, ?_⟩
              rcases hO.2 with hn | ⟨b, cap, cur, rfl, hbb, hgg, rest⟩
              · exact .inl hn
              · exact .inr ⟨b, cap, cur, rfl, hbb, ka.heap hgg (fun h => h), rest⟩
            have hrl := World.ownsRow.lt hO
            have cA := hcw.trans0 ka
            have hszA := cA.size
            have hml2 : (missS s.ms k).length ≤ 1000000 := by omega
            have HK := hide h1
            clear hO h hcw hms hmh ka hml
            simp only [sendC, List.toArray] at hblk hOA cA hszA
            go_wp2_with fail
            go_region_law (first
              | (refine step_send (s := s) (i := k) rfl _ _ rfl hOA rfl hblk rfl hml2 hszA ?_; intro v5 w5 hO5 hg5 hat5))
            all_goals
              have c5 := cA.grown hg5 fun j hj hlt => by have := (hrl j hj).1; omega
              have e5 : missS s.ms k ++ [k] = missS s.ms (k + 1) := by rw [HMS.out]; rfl
              rw [e5] at hO5
              clear hOA hblk cA hszA hrl c0 c2 c14 c16 c12 c13 hlk hg5 hat5 e5
              go_wp2_with fail
              go_round
              case rel => first | exact ⟨k + 1, by go_num, by have := HK.out; omega, hO5, c5⟩ | ((repeat apply Exists.intro); exact ⟨⟨k + 1, by go_num, by have := HK.out; omega, hO5, c5⟩, rfl⟩)
              case measure => have := HK.out; simp [intOf]; omega
          · rw [hmh] at hms hlk
            have hms2 : missS s.ms (k + 1) = missS s.ms k := by rw [hms]; simp
            rw [← hms2] at hO
            clear hms hms2 hmh h
            go_wp2_with fail
            go_round
            case rel => exact ⟨k + 1, by go_num, by omega, hO, hcw⟩
            case measure => simp [intOf]; omega
        · obtain rfl : k = s.n := by omega
          have hd1 : decide ((s.n : Int) < (s.n : Int)) = false := decide_eq_false (by omega)
          clear h
          go_wp2_with fail
          go_ret
          rw [HR.out]
          exact ⟨_, rfl, hO, hcw⟩
end Go.Proofs.Ytlcnlcjfnpicgaa
