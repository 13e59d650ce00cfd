/- term.args' function value: the iterator's contract. -/
import Derived.RangeFuncNested
import Derived.RangeFuncBound
import Derived.RangeFuncCalls
import Derived.RangeFuncLeaves
import Derived.Shelf.Abstract
import Derived.Shelf.RegionOpen
import Derived.OwnWalkIn
import Derived.TacticsInMore
import Derived.LoopNIn
import Derived.LoopIn
import Derived.Sort.QuietIn
import Derived.Test.YtoppfcfalciibaaBoxes
import Derived.Test.YtoppfcfalciibaaGathL
import Derived.Test.YtoppfcfalciibaaTailIn
namespace Go.Proofs.Ytoppfcfalciibaa
open Go.RowKit Go.Shelf
set_option maxRecDepth 100000
attribute [local go_sem] Oper.semAt_some

theorem yield_or {e : Ending} {A B : Prop} (h : (e = .returned (.bool true) ∧ A) ∨ (e = .returned (.bool false) ∧ B)) : ∃ bv : Bool, e = .returned (.bool bv) ∧ ((bv = true ∧ A) ∨ (bv = false ∧ B)) := by
  rcases h with ⟨h, h'⟩ | ⟨h, h'⟩
  · exact ⟨true, h, .inl ⟨rfl, h'⟩⟩
  · exact ⟨false, h, .inr ⟨rfl, h'⟩⟩
/-- Whatever lay below B, but for block A, lies as it lay. -/
structure Keep2 (A B : Nat) (W W' : World) : Prop where
  size : W.heap.size ≤ W'.heap.size
  block : ∀ q, q ≠ A → q < B → W'.heap[q]? = W.heap[q]?
section
variable {A B : Nat} {W W' W'' : World}
theorem Keep2.refl (A B : Nat) (W : World) : Keep2 A B W W := ⟨Nat.le_refl _, fun _ _ _ => rfl⟩
theorem Keep2.trans (h : Keep2 A B W W') (h' : Keep2 A B W' W'') : Keep2 A B W W'' := ⟨Nat.le_trans h.size h'.size, fun q h1 h2 => (h'.block q h1 h2).trans (h.block q h1 h2)⟩
theorem Keep2.drew (h : Keep2 A B W W') : Keep2 A B W W'.drew := ⟨h.size, h.block⟩
theorem Keep2.drewN (h : Keep2 A B W W') (n : Nat) : Keep2 A B W (W'.drewN n) := ⟨h.size, h.block⟩
theorem Keep2.cell (h : Keep2 A B W W') {p : Addr} (h1 : p.block ≠ A) (h2 : p.block < B) : W'.cell? p = W.cell? p := World.cell?_of_block (w := W) (h.block p.block h1 h2)
theorem Keep2.of_below {C : Nat} (h : Below C W W') (hB : B ≤ C) : Keep2 A B W W' := ⟨h.size, fun q _ h2 => h.block q (by omega)⟩
theorem Keep2.set (h : Keep2 A B W W') (o : Nat) (v : Value) : Keep2 A B W (W'.setCell ⟨A, o, none⟩ v) :=
  ⟨by have := h.size; simpa using this, fun q h1 h2 => (Below.heap_setCell W' ⟨A, o, none⟩ v q h1).trans (h.block q h1 h2)⟩
theorem Keep2.b {w : World} (hn : B ≤ w.heap.size) (W : World) (l : Nat) (o o' : Obj) (hl : w.heap.size ≤ l) (h : W.heap[l]? = some o) (_ : o.isCells = false) (_ : o.isWalk = false) : Keep2 A B W (W.putObj l o') :=
  .of_below ((Below.refl B W).grown (grownBy_putObj' W l o') (by have := (Array.getElem?_eq_some_iff.1 h).1; omega) (fun k e => by cases e; omega)) (Nat.le_refl _)
end

abbrev Arg (i : Nat) := { x : Int // 0 ≤ x ∧ x < (i : Int) }
def vals {i : Nat} (l : List (Arg i)) : List Int := l.map fun x => x.1
theorem vals_snoc {i : Nat} (l : List (Arg i)) (x : Arg i) : vals (l ++ [x]) = vals l ++ [x.1] := by simp [vals]
theorem vals_len {i : Nat} (l : List (Arg i)) : (vals l).length = l.length := by simp [vals]
def encA {i : Nat} (x : Arg i) : Array Value := #[.int .i64 x.1]
theorem drewN_keep {β : Type} {J : β → World → Prop} {s : β} (h : ∀ A, J s A → J s A.drew) {W : World} (h0 : J s W) : ∀ q, J s (W.drewN q) := fun q => by
  induction q with
  | zero => exact h0
  | succ q ih => exact h _ ih

set_option maxHeartbeats 4000000 in
theorem argsI_in (n : Nat) (hn1 : 1 ≤ n) (l A₀ B1 B2 Bt n₀ m c i b o : Nat) (N : Nat → Nd) (J Jx : List (Arg i) → World → Prop)
    (hY : ∀ pre x W, J pre W → pre.length < 3 → YieldAt Fence.wide (n - 1) Try.prog l (encA x) W fun e W' =>
      (e = .returned (.bool true) ∧ J (pre ++ [x]) W' ∧ Keep2 A₀ n₀ W W') ∨ (e = .returned (.bool false) ∧ Jx (pre ++ [x]) W'))
    (W : World) (h1 : W.cell? ⟨B1, 0, none⟩ = some (.pointer (some ⟨Bt, 0, none⟩))) (h2 : W.cell? ⟨B2, 0, none⟩ = some (.int .i64 i)) (ht : W.cell? ⟨Bt, 0, none⟩ = some (.slice (some ⟨b, o, none⟩) m c))
    (hnd : NdIn W b (o + i * 8) (N i)) (him : i < m) (hch : CheckP m N) (g1 : B1 < n₀) (g2 : B2 < n₀) (g3 : Bt < n₀) (g4 : b < n₀) (d1 : B1 ≠ A₀) (d2 : B2 ≠ A₀) (d3 : Bt ≠ A₀) (d4 : b ≠ A₀) (hJd : ∀ s A, J s A → J s A.drew) (h0 : J [] W) :
    CallsIn Fence.wide n Try.prog 81 #[.func (.yield l) #[] #[], .pointer (some ⟨B1, 0, none⟩), .pointer (some ⟨B2, 0, none⟩)] W fun e W' => (∃ v, e = .returned v) ∧
      ((∃ ys, vals ys = argsN N i ∧ J ys W') ∨ (∃ pre, vals pre <+: argsN N i ∧ Jx pre W')) := by
  refine callsIn_of_wp Try.func81 rfl trivial ?_ rfl
  simp only [Try.ntmps81, List.size_toArray, List.length_cons, List.length_nil, Nat.reduceAdd, Nat.reduceSub, Array.replicate_succ, Array.replicate_zero, List.push_toArray, List.append_toArray, List.nil_append, List.cons_append]
  obtain ⟨e0, e1, e2, e3, e4, e5, e6, e7⟩ := hnd
  have hst := hch.all i him
  have hl0 := hst.len0
  have hl3 := hst.len3
  have hwl : IntKind.i64.wrap (N i).len = (N i).len := by rw [IntKind.wrap_i64]; omega
  clear hst
  gi_wp2
  refine wpIn_region_quiet_lit rfl (by kernel_rfl) (by kernel_rfl) ?_
  repeat (gi_big_quiet_step (fail))
  refine wpQuietIn_nil ?_
  rintro _ ⟨nq, hw⟩
  subst hw
  clear e0 e2 e3 e4 e5 e6 e7
  have h0' : J [] (W.drewN nq) := drewN_keep (fun A => hJd [] A) h0 nq
  have hW0 : Keep2 A₀ n₀ W (W.drewN nq) := (Keep2.refl _ _ _).drewN nq
  gi_wp2
  generalize W.drewN nq = W1 at *
  gi_loopw [14] (fun x wr => ∃ (k : Nat) (pre : List (Arg i)), k ≤ 3 ∧ x = .int .i64 k ∧ vals pre = argsTo N i k ∧ J pre wr ∧ Keep2 A₀ n₀ W wr) (fun x _ => 3 - (intOf x).toNat)
  case atStart => exact ⟨0, [], by omega, rfl, by simp [argsTo, vals], h0', hW0⟩
  case round =>
    obtain ⟨k, pre, hk, rfl, hpre, hJk, hbk⟩ := hrel
    have h1' := (hbk.cell (p := ⟨B1, 0, none⟩) d1 g1).trans h1
    have h2' := (hbk.cell (p := ⟨B2, 0, none⟩) d2 g2).trans h2
    have ht' := (hbk.cell (p := ⟨Bt, 0, none⟩) d3 g3).trans ht
    have e1' := (hbk.cell (p := ⟨b, o + i * 8 + 1, none⟩) d4 g4).trans e1
    clear h1 h2 ht e1
    by_cases hlt : k < 3
    · have hix := fun x => run_ix (N i) k hlt x
      have i1 : (k : Int) < 3 := by omega
      by_cases hkl : (k : Int) < (N i).len
      · obtain ⟨a0, a1, _⟩ := hch.argB him hkl
        have hpl : pre.length < 3 := by
          have := congrArg List.length hpre
          rw [vals_len] at this
          have := argsTo_len N i k
          omega
        obtain ⟨fn, tmps, assign, body, hy, hR⟩ := hY pre ⟨(N i).arg k, a0, a1⟩ wr.drew (hJd _ _ hJk) hpl
        dsimp only [encA] at hy
        have i2 : decide ((k : Int) < (N i).len) = true := decide_eq_true hkl
        have i3 : decide (0 ≤ (N i).arg k) = true := decide_eq_true a0
        have i4 : decide ((N i).arg k < (i : Int)) = true := decide_eq_true a1
        have hN' := Lib.hid (argsTo_in N i k hkl)
        have hp' := Lib.hid hpre
        clear hkl hpre
        gi_wp2
        refine wpIn_region_tail 23 WideF.wide (by kernel_rfl) (by kernel_rfl) ?_
        simp only [List.take_succ_cons, List.take_zero, List.drop_succ_cons, List.drop_zero]
        repeat still_step
        refine wpStill_nil ?_
        gi_wp2
        refine hR.mono ?_
        rintro e W3 (⟨rfl, hJ3, hb3⟩ | ⟨rfl, hJ3⟩)
        · gi_wp2
          go_roundw
          case rel => exact ⟨k + 1, _, by omega, by go_num, by rw [hN'.out, vals_snoc, hp'.out], hJ3, hbk.drew.trans hb3⟩
          case measure => simp [intOf]; omega
        · gi_wp2
          refine bodyPost_ret (results_none rfl _ _ _) rfl ?_
          exact ⟨⟨_, rfl⟩, .inr ⟨_, by rw [vals_snoc, hp'.out, ← hN'.out]; exact argsTo_pre N i (k + 1) (by omega), hJ3⟩⟩
      · have i2 : decide ((k : Int) < (N i).len) = false := decide_eq_false hkl
        have hN' := Lib.hid (argsTo_out N i k (by omega))
        have hp' := Lib.hid hpre
        clear hkl hpre
        gi_wp2
        refine wpIn_region_tail 23 WideF.wide (by kernel_rfl) (by kernel_rfl) ?_
        simp only [List.take_succ_cons, List.take_zero, List.drop_succ_cons, List.drop_zero]
        repeat still_step
        refine wpStill_nil ?_
        gi_wp2
        refine ⟨fun _ h => (by cases h), ?_⟩
        gi_wp2
        go_roundw
        case rel => exact ⟨k + 1, pre, by omega, by go_num, by rw [hN'.out]; exact hp'.out, hJd _ _ hJk, hbk.drew⟩
        case measure => simp [intOf]; omega
    · obtain rfl : k = 3 := by omega
      gi_wp2
      go_end0
      exact ⟨⟨_, rfl⟩, .inl ⟨_, hpre, hJk⟩⟩
end Go.Proofs.Ytoppfcfalciibaa
