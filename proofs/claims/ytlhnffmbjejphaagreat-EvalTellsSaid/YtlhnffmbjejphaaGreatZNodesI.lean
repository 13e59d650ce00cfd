/- eval.nodes' function value: the iterator's contract. -/
import Derived.RangeFuncNested
import Derived.RangeFuncBound
import Derived.RangeFuncCalls
import Derived.RangeFuncLeaves
import Derived.Shelf.Abstract
import Derived.Shelf.RegionOpen
import Derived.OwnWalkIn
import Derived.TacticsInMore
import Derived.LoopNIn
import Derived.LoopIn
import Derived.Sort.QuietIn
import Derived.Test.YtlhnffmbjejphaaGreatZIntsToSame10
import Derived.Test.YtlhnffmbjejphaaGreatZNodeArityStands
namespace Go.Proofs.YtlhnffmbjejphaaGreat
open Go.RowKit Go.Shelf
set_option maxRecDepth 100000
attribute [local go_sem] Oper.semAt_some

/-- Whatever lay below B, but for two blocks, lies as it lay. -/
structure Keep3 (A1 A2 B : Nat) (W W' : World) : Prop where
  size : W.heap.size ≤ W'.heap.size
  block : ∀ q, q ≠ A1 → q ≠ A2 → q < B → W'.heap[q]? = W.heap[q]?
section
variable {A1 A2 B : Nat} {W W' W'' : World}
theorem Keep3.refl (A1 A2 B : Nat) (W : World) : Keep3 A1 A2 B W W := ⟨Nat.le_refl _, fun _ _ _ _ => rfl⟩
theorem Keep3.trans (h : Keep3 A1 A2 B W W') (h' : Keep3 A1 A2 B W' W'') : Keep3 A1 A2 B W W'' := ⟨Nat.le_trans h.size h'.size, fun q h1 h2 h3 => (h'.block q h1 h2 h3).trans (h.block q h1 h2 h3)⟩
theorem Keep3.drew (h : Keep3 A1 A2 B W W') : Keep3 A1 A2 B W W'.drew := ⟨h.size, h.block⟩
theorem Keep3.cell (h : Keep3 A1 A2 B W W') {p : Addr} (h1 : p.block ≠ A1) (h2 : p.block ≠ A2) (h3 : p.block < B) : W'.cell? p = W.cell? p := World.cell?_of_block (w := W) (h.block p.block h1 h2 h3)
theorem Keep3.of_below {C : Nat} (h : Below C W W') (hB : B ≤ C) : Keep3 A1 A2 B W W' := ⟨h.size, fun q _ _ h2 => h.block q (by omega)⟩
theorem Keep3.set1 (h : Keep3 A1 A2 B W W') (o : Nat) (v : Value) : Keep3 A1 A2 B W (W'.setCell ⟨A1, o, none⟩ v) :=
  ⟨by have := h.size; simpa using this, fun q h1 h2 h3 => (Below.heap_setCell W' ⟨A1, o, none⟩ v q h1).trans (h.block q h1 h2 h3)⟩
theorem Keep3.set2 (h : Keep3 A1 A2 B W W') (o : Nat) (v : Value) : Keep3 A1 A2 B W (W'.setCell ⟨A2, o, none⟩ v) :=
  ⟨by have := h.size; simpa using this, fun q h1 h2 h3 => (Below.heap_setCell W' ⟨A2, o, none⟩ v q h2).trans (h.block q h1 h2 h3)⟩
theorem Keep3.b {w : World} (hn : B ≤ w.heap.size) (W : World) (l : Nat) (o o' : Obj) (hl : w.heap.size ≤ l) (h : W.heap[l]? = some o) (_ : o.isCells = false) (_ : o.isWalk = false) : Keep3 A1 A2 B W (W.putObj l o') :=
  .of_below ((Below.refl B W).grown (grownBy_putObj' W l o') (by have := (Array.getElem?_eq_some_iff.1 h).1; omega) (fun k e => by cases e; omega)) (Nat.le_refl _)
end
theorem nodes_any (tv : Value) (w : World) : Calls Tryz.prog 27 #[.agg #[tv]] w fun z w' => z = .returned (.func (.func 69) #[] #[.pointer (some ⟨w.heap.size, 0, none⟩)]) ∧ w' = w.alloc (.cells #[tv] 33) := by
  have hmf : ∀ (fn : Go.Fn) (first cap : Array Value) (w : World), (Instr.makeFunc fn first cap).run Tryz.prog w = .ok (.func fn first cap) w := fun _ _ _ _ => rfl
  go_enter Tryz.func27, Tryz.ntmps27
  go_wp2
  go_ret
  exact ⟨rfl, rfl⟩
/-- A place of a table. -/
abbrev Pl (n : Nat) := { x : Nat // x < n }
def encN {n : Nat} (N : Nat → Nd) (x : Pl n) : Array Value := #[.int .i64 (x.1 : Int), .agg #[.int .i8 (N x.1).op, .int .i8 (N x.1).len, .int .i64 (N x.1).a0, .int .i64 (N x.1).a1, .int .i64 (N x.1).a2, .int .i64 (N x.1).sort, .int .i64 (N x.1).fn, .int .i64 (N x.1).num]]
def plsL {n : Nat} (l : List (Pl n)) : List Nat := l.map fun x => x.1
theorem plsL_snoc {n : Nat} (l : List (Pl n)) (x : Pl n) : plsL (l ++ [x]) = plsL l ++ [x.1] := by simp [plsL]
theorem plsL_len {n : Nat} (l : List (Pl n)) : (plsL l).length = l.length := by simp [plsL]
theorem plsL_lt {n : Nat} (l : List (Pl n)) : ∀ x ∈ plsL l, x < n := fun x hx => by
  simp only [plsL, List.mem_map] at hx
  obtain ⟨y, _, rfl⟩ := hx
  exact y.2
set_option maxHeartbeats 4000000 in
theorem nodesI_in (m : Nat) (hm1 : 1 ≤ m) (l A1 A2 B1 n₀ n c : Nat) (b o : Nat) (N : Nat → Nd) (J Jx : List (Pl n) → World → Prop)
    (hY : ∀ pre x W, J pre W → pre.length < n → YieldAt Fence.wide (m - 1) Tryz.prog l (encN N x) W fun e W' =>
      (e = .returned (.bool true) ∧ J (pre ++ [x]) W' ∧ Keep3 A1 A2 n₀ W W') ∨ (e = .returned (.bool false) ∧ Jx (pre ++ [x]) W'))
    (W : World) (h1 : W.cell? ⟨B1, 0, none⟩ = some (.slice (some ⟨b, o, none⟩) n c)) (hnd : ∀ i, i < n → NdIn W b (o + i * 8) (N i)) (hn : n ≤ 1000000) (g4 : b < n₀) (d1 : b ≠ A1) (d2 : b ≠ A2) (hn₀ : n₀ ≤ W.heap.size)
    (hJa : ∀ s A o, J s A → J s (A.alloc o)) (h0 : J [] W) :
    CallsIn Fence.wide m Tryz.prog 69 #[.func (.yield l) #[] #[], .pointer (some ⟨B1, 0, none⟩)] W fun e W' => (∃ v, e = .returned v) ∧
      ((∃ ys, plsL ys = List.range n ∧ J ys W') ∨ (∃ pre, True ∧ Jx pre W')) := by
  refine callsIn_of_wp Tryz.func69 rfl trivial ?_ rfl
  simp only [Tryz.ntmps69, List.size_toArray, List.length_cons, List.length_nil, Nat.reduceAdd, Nat.reduceSub, Array.replicate_succ, Array.replicate_zero, List.push_toArray, List.append_toArray, List.nil_append, List.cons_append]
  gi_wp2
  gi_loopw [3, 4, 8] (fun _ _ x wr => ∃ (k : Nat) (pre : List (Pl n)), k ≤ n ∧ x = .int .i64 k ∧ plsL pre = List.range k ∧ J pre wr ∧ Keep3 A1 A2 n₀ W wr) (fun _ _ x _ => n - (intOf x).toNat)
  case atStart => exact ⟨0, [], by omega, rfl, rfl, h0, Keep3.refl _ _ _ _⟩
  case round =>
    obtain ⟨k, pre, hk, rfl, hpre, hJk, hbk⟩ := hrel
    by_cases hlt : k < n
    · have i1 : decide ((k : Int) < (n : Int)) = true := decide_eq_true (by omega)
      have hnk := (hnd k hlt).keep (w' := wr) fun j => hbk.cell (p := ⟨b, j, none⟩) d1 d2 g4
      obtain ⟨e0, e1, e2, e3, e4, e5, e6, e7⟩ := hnk
      have hz := hbk.size
      have hpl : pre.length < n := by
        have := congrArg List.length hpre
        rw [plsL_len, List.length_range] at this
        omega
      obtain ⟨fn, tmps, assign, body, hy, hR⟩ := hY pre ⟨k, hlt⟩ _ (hJa _ wr (.cells #[.int .i8 (N k).op, .int .i8 (N k).len, .int .i64 (N k).a0, .int .i64 (N k).a1, .int .i64 (N k).a2, .int .i64 (N k).sort, .int .i64 (N k).fn, .int .i64 (N k).num] 53) hJk) hpl
      dsimp only [encN] at hy
      have hp' := Lib.hid hpre
      clear hpre
      gi_wp2
      refine hR.mono ?_
      rintro e W3 (⟨rfl, hJ3, hb3⟩ | ⟨rfl, hJ3⟩)
      · gi_wp2
        go_roundw
        case rel => exact ⟨k + 1, _, by omega, by go_num, by rw [plsL_snoc, hp'.out, List.range_succ], hJ3, (hbk.trans (.of_below ((Below.refl _ _).alloc (Nat.le_refl _) _) (by omega))).trans hb3⟩
        case measure => simp [intOf]; omega
      · gi_wp2
        refine bodyPost_ret (results_none rfl _ _ _) rfl ?_
        exact ⟨⟨_, rfl⟩, .inr ⟨_, trivial, hJ3⟩⟩
    · obtain rfl : k = n := by omega
      have i1 : decide ((k : Int) < (k : Int)) = false := decide_eq_false (by omega)
      gi_wp2
      go_end0
      exact ⟨⟨_, rfl⟩, .inl ⟨_, hpre, hJk⟩⟩
end Go.Proofs.YtlhnffmbjejphaaGreat
