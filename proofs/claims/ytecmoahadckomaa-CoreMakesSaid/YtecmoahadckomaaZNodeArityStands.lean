/- Words for memory: nodes, rows of nodes, tables. -/
import Derived.Test.YtecmoahadckomaaZIntsToNumW
import Derived.BigFrame
namespace Go.Proofs.Ytecmoahadckomaa
open Go.RowKit

structure Nd where
  op : Int
  len : Int
  a0 : Int
  a1 : Int
  a2 : Int
  sort : Int
  fn : Int
  num : Int
deriving DecidableEq
def R8 (x : Int) : Prop := -128 ≤ x ∧ x ≤ 127
structure NdR (e : Nd) : Prop where
  op : R8 e.op
  len : R8 e.len
  a0 : R64 e.a0
  a1 : R64 e.a1
  a2 : R64 e.a2
  sort : R64 e.sort
  fn : R64 e.fn
  num : R64 e.num
def nd0 : Nd := ⟨0, 0, 0, 0, 0, 0, 0, 0⟩
theorem nd0_R : NdR nd0 := ⟨⟨by decide, by decide⟩, ⟨by decide, by decide⟩, ⟨by decide, by decide⟩, ⟨by decide, by decide⟩, ⟨by decide, by decide⟩, ⟨by decide, by decide⟩, ⟨by decide, by decide⟩, ⟨by decide, by decide⟩⟩
def ndC (e : Nd) : List Value := [.int .i8 e.op, .int .i8 e.len, .int .i64 e.a0, .int .i64 e.a1, .int .i64 e.a2, .int .i64 e.sort, .int .i64 e.fn, .int .i64 e.num]
def ndV (e : Nd) : Value := .agg #[.int .i8 e.op, .int .i8 e.len, .int .i64 e.a0, .int .i64 e.a1, .int .i64 e.a2, .int .i64 e.sort, .int .i64 e.fn, .int .i64 e.num]
theorem info_node : (Try.prog.info? 39).map (fun i => (i.zero, i.size, i.bytes)) = some (some (ndV nd0), 8, 56) := by kernel_rfl

/-- At b, o of w lies the node e. -/
def NdIn (w : World) (b o : Nat) (e : Nd) : Prop :=
  w.cell? ⟨b, o, none⟩ = some (.int .i8 e.op) ∧ w.cell? ⟨b, o + 1, none⟩ = some (.int .i8 e.len) ∧ w.cell? ⟨b, o + 2, none⟩ = some (.int .i64 e.a0) ∧ w.cell? ⟨b, o + 3, none⟩ = some (.int .i64 e.a1) ∧
  w.cell? ⟨b, o + 4, none⟩ = some (.int .i64 e.a2) ∧ w.cell? ⟨b, o + 5, none⟩ = some (.int .i64 e.sort) ∧ w.cell? ⟨b, o + 6, none⟩ = some (.int .i64 e.fn) ∧ w.cell? ⟨b, o + 7, none⟩ = some (.int .i64 e.num)
/-- The slice value v reads, in w, as the n nodes N 0 .. -/
def NdsAt (w : World) (v : Value) (n : Nat) (N : Nat → Nd) : Prop :=
  ∃ (A : Option Addr) (c : Nat), v = .slice A n c ∧ (n ≤ c ∧ c ≤ 9223372036854775807) ∧ (∀ i, i < n → NdR (N i)) ∧
    (0 < n → ∃ b o, A = some ⟨b, o, none⟩ ∧ b < w.heap.size ∧ ∀ i, i < n → NdIn w b (o + i * 8) (N i))

section
variable {w w' : World} {v : Value} {n : Nat} {N M : Nat → Nd} {b o : Nat} {e : Nd}
theorem NdIn.keep (h : NdIn w b o e) (hk : ∀ j, w'.cell? ⟨b, j, none⟩ = w.cell? ⟨b, j, none⟩) : NdIn w' b o e := by
  obtain ⟨h0, h1, h2, h3, h4, h5, h6, h7⟩ := h
  exact ⟨(hk _).trans h0, (hk _).trans h1, (hk _).trans h2, (hk _).trans h3, (hk _).trans h4, (hk _).trans h5, (hk _).trans h6, (hk _).trans h7⟩
theorem NdIn.below {B : Nat} (h : NdIn w b o e) (hb : Below B w w') (hB : b < B) : NdIn w' b o e := h.keep fun j => hb.cell (p := ⟨b, j, none⟩) hB
theorem NdsAt.keep (h : NdsAt w v n N) (hs : w.heap.size ≤ w'.heap.size) (hk : ∀ p : Addr, p.block < w.heap.size → w'.cell? p = w.cell? p) : NdsAt w' v n N := by
  obtain ⟨A, c, rfl, hn, hr, hc⟩ := h
  refine ⟨A, c, rfl, hn, hr, fun h0 => ?_⟩
  obtain ⟨b, o, rfl, hb, hc⟩ := hc h0
  exact ⟨b, o, rfl, by omega, fun i hi => (hc i hi).keep fun j => hk ⟨b, j, none⟩ hb⟩
theorem NdsAt.below (h : NdsAt w v n N) (hb : Below w.heap.size w w') : NdsAt w' v n N := h.keep hb.size fun _ hp => hb.cell hp
theorem NdsAt.ranges (h : NdsAt w v n N) : ∀ i, i < n → NdR (N i) := by obtain ⟨A, c, rfl, hn, hr, hc⟩ := h; exact hr
theorem NdsAt.congr (h : NdsAt w v n N) (e : ∀ i, i < n → N i = M i) : NdsAt w v n M := by
  obtain ⟨A, c, rfl, hn, hr, hc⟩ := h
  refine ⟨A, c, rfl, hn, fun i hi => by rw [← e i hi]; exact hr i hi, fun h0 => ?_⟩
  obtain ⟨b, o, rfl, hb, hc⟩ := hc h0
  exact ⟨b, o, rfl, hb, fun i hi => by rw [← e i hi]; exact hc i hi⟩
theorem NdsAt.nil (w : World) (N : Nat → Nd) : NdsAt w (.slice none 0 0) 0 N := ⟨none, 0, rfl, by omega, fun i h => by omega, fun h => by omega⟩
end

theorem run_eqArr (d : Nat) (a b c x y z : Int) (W : World) : (Op.equalIn (d + 2) 37 (.agg #[.int .i64 a, .int .i64 b, .int .i64 c]) (.agg #[.int .i64 x, .int .i64 y, .int .i64 z])).run Try.prog W = .ok (decide (a = x ∧ b = y ∧ c = z)) W := by
  obtain ⟨i0, hi, _, hz1, _⟩ := info_parts info_int
  rw [run_equalIn_array W (d + 1) _ _ Try.underlying37 hi, show List.range 3 = [0, 1, 2] from rfl, show Try.prog.cellsOf 3 = 1 by kernel_rfl]
  unfold Op.eqItems Op.eqItems Op.eqItems Op.eqItems
  go_simp
  by_cases h0 : a = x <;> by_cases h1 : b = y <;> by_cases h2 : c = z <;> simp [h0, h1, h2]
theorem run_eqNd' (x y : Nd) (W : World) : (Op.equalIn 10000 39 (ndV x) (ndV y)).run Try.prog W = .ok (decide (x = y)) W := by
  have harr := run_eqArr
  obtain ⟨x0, x1, x2, x3, x4, x5, x6, x7⟩ := x
  obtain ⟨y0, y1, y2, y3, y4, y5, y6, y7⟩ := y
  unfold ndV
  go_simp
  by_cases h0 : x0 = y0 <;> by_cases h1 : x1 = y1 <;> by_cases h2 : x2 = y2 <;> by_cases h3 : x3 = y3 <;> by_cases h4 : x4 = y4 <;> by_cases h5 : x5 = y5 <;> by_cases h6 : x6 = y6 <;> by_cases h7 : x7 = y7 <;> simp [h0, h1, h2, h3, h4, h5, h6, h7]
/-- For the walk: '==', '!=' of two nodes. -/
def ndEq (x0 x1 x2 x3 x4 x5 x6 x7 y0 y1 y2 y3 y4 y5 y6 y7 : Int) : Bool := decide ((⟨x0, x1, x2, x3, x4, x5, x6, x7⟩ : Nd) = ⟨y0, y1, y2, y3, y4, y5, y6, y7⟩)
theorem ndEq_eq (x y : Nd) : ndEq x.op x.len x.a0 x.a1 x.a2 x.sort x.fn x.num y.op y.len y.a0 y.a1 y.a2 y.sort y.fn y.num = decide (x = y) := rfl
theorem run_eqNd (W : World) (x0 x1 x2 x3 x4 x5 x6 x7 y0 y1 y2 y3 y4 y5 y6 y7 : Int) : (Op.equalIn 10000 39 (.agg #[.int .i8 x0, .int .i8 x1, .int .i64 x2, .int .i64 x3, .int .i64 x4, .int .i64 x5, .int .i64 x6, .int .i64 x7])
    (.agg #[.int .i8 y0, .int .i8 y1, .int .i64 y2, .int .i64 y3, .int .i64 y4, .int .i64 y5, .int .i64 y6, .int .i64 y7])).run Try.prog W = .ok (ndEq x0 x1 x2 x3 x4 x5 x6 x7 y0 y1 y2 y3 y4 y5 y6 y7) W :=
  run_eqNd' ⟨x0, x1, x2, x3, x4, x5, x6, x7⟩ ⟨y0, y1, y2, y3, y4, y5, y6, y7⟩ W

/-- Two rows of nodes alike up to k. -/
def eqN (N M : Nat → Nd) : Nat → Bool
  | 0 => true
  | k + 1 => eqN N M k && decide (N k = M k)
def sameN (n : Nat) (N : Nat → Nd) (m : Nat) (M : Nat → Nd) : Bool := decide (n = m) && eqN N M n
theorem eqN_iff (N M : Nat → Nd) (k : Nat) : eqN N M k = true ↔ ∀ i, i < k → N i = M i := by
  induction k with
  | zero => simp [eqN]
  | succ k ih =>
    rw [eqN, Bool.and_eq_true, ih, decide_eq_true_eq]
    constructor
    · rintro ⟨h1, h2⟩ i hi
      by_cases e : i = k
      · subst e; exact h2
      · exact h1 i (by omega)
    · exact fun h => ⟨fun i hi => h i (by omega), h k (by omega)⟩
theorem eqN_not {N M : Nat → Nd} {k j : Nat} (hj : j < k) (h : N j ≠ M j) : eqN N M k = false := by
  cases hk : eqN N M k with
  | false => rfl
  | true => exact absurd ((eqN_iff N M k).1 hk j hj) h

set_option maxHeartbeats 400000 in
theorem Equal_any (v u : Value) (n m : Nat) (N M : Nat → Nd) (w : World) (hv : NdsAt w v n N) (hu : NdsAt w u m M) :
    Calls Try.prog 31 #[v, u] w fun e w' => e = .returned (.bool (sameN n N m M)) ∧ ∃ d, w' = w.drewN d := by
  obtain ⟨A, c, rfl, hn, hr, hc⟩ := hv
  obtain ⟨A2, c2, rfl, hm, hr2, hc2⟩ := hu
  have hc' := Lib.hid hc
  have hr' := Lib.hid hr
  have hc2' := Lib.hid hc2
  have hr2' := Lib.hid hr2
  clear hc hr hc2 hr2
  by_cases hnm : n = m
  · subst hnm
    have d0 : ((n : Int) != (n : Int)) = false := by simp
    have hen := run_eqNd
    go_enter Try.func31, Try.ntmps31
    go_wp2
    go_loopw [13] (fun i wr => ∃ j : Nat, j ≤ n ∧ i = .int .i64 j ∧ Hid (eqN N M j = true) ∧ ∃ d, wr = w.drewN d) (fun i _ => n - (intOf i).toNat)
    case atStart => exact ⟨0, Nat.zero_le _, rfl, rfl, 0, rfl⟩
    case round =>
      obtain ⟨j, hj, rfl, hs, d, rfl⟩ := hrel
      by_cases hlt : j < n
      · obtain ⟨b, o, rfl, hbl, hcs⟩ := hc'.out (by omega)
        obtain ⟨b2, o2, rfl, hbl2, hcs2⟩ := hc2'.out (by omega)
        obtain ⟨c0, c1, c2, c3, c4, c5, c6, c7⟩ := hcs j hlt
        obtain ⟨e0, e1, e2, e3, e4, e5, e6, e7⟩ := hcs2 j hlt
        clear hcs hcs2
        by_cases he : N j = M j
        · have he' := Lib.hid he
          have hd := (ndEq_eq (N j) (N j)).trans (decide_eq_true rfl)
          rw [← he] at e0 e1 e2 e3 e4 e5 e6 e7
          clear he
          go_wp2
          go_quiet (fail)
          go_wp2
          go_roundw
          case rel => exact ⟨j + 1, by omega, by go_num, by show eqN N M (j + 1) = true; rw [eqN, hs.out, he'.out]; simp, _, rfl⟩
          case measure => simp [intOf]; omega
        · have hno := Lib.hid (eqN_not hlt he)
          have hd := (ndEq_eq (N j) (M j)).trans (decide_eq_false he)
          clear he
          go_wp2
          go_quiet (fail)
          go_wp2
          go_ret
          exact ⟨ret_bool (by unfold sameN; rw [hno.out]; simp), _, World.drewN_drewN _ _ _⟩
      · go_wp2
        go_ret
        exact ⟨ret_bool (by have := hs.out; rw [show j = n by omega] at this; unfold sameN; rw [this]; simp), _, rfl⟩
  · have d0 : ((n : Int) != (m : Int)) = true := by simp; omega
    have hR : Hid (sameN n N m M = false) := by unfold sameN Hid; rw [decide_eq_false hnm]; rfl
    clear hnm
    go_enter Try.func31, Try.ntmps31
    go_wp2
    go_ret
    exact ⟨ret_bool hR.out.symm, 0, rfl⟩
end Go.Proofs.Ytecmoahadckomaa

namespace Go.Proofs.Ytecmoahadckomaa
open Go.RowKit

def ar (op : Int) : Int :=
  if op = 0 ∨ op = 10 then 0 else if op = 1 ∨ op = 11 then 1 else if (2 ≤ op ∧ op ≤ 6) ∨ op = 8 ∨ op = 9 ∨ op = 12 then 2 else if op = 7 then 3 else if op = 13 then -1 else -2
def arV (op : Int) : Value :=
  if ar op = -2 then .tuple #[.int .i8 0, .int .i8 0, .bool false] else if ar op = -1 then .tuple #[.int .i8 0, .int .i8 3, .bool true] else .tuple #[.int .i8 (ar op), .int .i8 (ar op), .bool true]
theorem ar_out {op : Int} (h : op < 0 ∨ 13 < op) : ar op = -2 := by
  unfold ar
  rw [if_neg (by omega), if_neg (by omega), if_neg (by omega), if_neg (by omega), if_neg (by omega)]
theorem op_cases {op : Int} (h0 : 0 ≤ op) (h1 : op ≤ 13) : op = 0 ∨ op = 1 ∨ op = 2 ∨ op = 3 ∨ op = 4 ∨ op = 5 ∨ op = 6 ∨ op = 7 ∨ op = 8 ∨ op = 9 ∨ op = 10 ∨ op = 11 ∨ op = 12 ∨ op = 13 := by omega

set_option maxHeartbeats 1000000 in
theorem RArity_any (op : Int) (w : World) (h : R8 op) :
    Calls Try.prog 53 #[.int .i8 op] w fun e w' => e = .returned (.int .i64 (ar op)) ∧ w = w' := by
  obtain ⟨h0, h1⟩ := h
  by_cases g : op < 0 ∨ 13 < op
  · have hr := Lib.hid (ar_out g)
    have n0 : (op == 0) = false := by simp; omega
    have n1 : (op == 1) = false := by simp; omega
    have n2 : (op == 2) = false := by simp; omega
    have n3 : (op == 3) = false := by simp; omega
    have n4 : (op == 4) = false := by simp; omega
    have n5 : (op == 5) = false := by simp; omega
    have n6 : (op == 6) = false := by simp; omega
    have n7 : (op == 7) = false := by simp; omega
    have n8 : (op == 8) = false := by simp; omega
    have n9 : (op == 9) = false := by simp; omega
    have n10 : (op == 10) = false := by simp; omega
    have n11 : (op == 11) = false := by simp; omega
    have n12 : (op == 12) = false := by simp; omega
    have n13 : (op == 13) = false := by simp; omega
    clear g
    go_enter Try.func53, Try.ntmps53
    go_wp2
    go_ret
    exact ⟨ret_int hr.out.symm, rfl⟩
  · rcases op_cases (op := op) (by omega) (by omega) with rfl | rfl | rfl | rfl | rfl | rfl | rfl | rfl | rfl | rfl | rfl | rfl | rfl | rfl
    all_goals
      go_enter Try.func53, Try.ntmps53
      go_wp2
      go_ret
      exact ⟨rfl, rfl⟩

set_option maxHeartbeats 1000000 in
theorem Arity_any (op : Int) (w : World) (h : R8 op) :
    Calls Try.prog 55 #[.int .i8 op] w fun e w' => e = .returned (arV op) ∧ Below w.heap.size w w' := by
  obtain ⟨h0, h1⟩ := h
  by_cases g : op < 0 ∨ 13 < op
  · have hr : Hid (arV op = .tuple #[.int .i8 0, .int .i8 0, .bool false]) := by unfold arV Hid; rw [if_pos (ar_out g)]
    have n13 : (op == 13) = false := by simp; omega
    go_enter Try.func55, Try.ntmps55
    go_wp2
    all_goals first
      | omega
      | (go_ret3
         exact ⟨by rw [hr.out]; rfl, (Below.refl _ _).alloc (Nat.le_refl _) _⟩)
  · by_cases g13 : op = 13
    · subst g13
      go_enter Try.func55, Try.ntmps55
      go_wp2
      go_ret3
      exact ⟨rfl, Below.refl _ _⟩
    · have n13 : (op == 13) = false := by simp; omega
      obtain ⟨k, rfl⟩ := Int.eq_ofNat_of_zero_le (show 0 ≤ op by omega)
      have hk : k < 13 := by omega
      have hr : Hid (arV k = .tuple #[.int .i8 (ar k), .int .i8 (ar k), .bool true]) := by
        have : ar k ≠ -2 ∧ ar k ≠ -1 := by unfold ar; constructor <;> (repeat' split) <;> omega
        unfold arV Hid; rw [if_neg this.1, if_neg this.2]
      have hT : [Value.int .i8 0, .int .i8 1, .int .i8 2, .int .i8 2, .int .i8 2, .int .i8 2, .int .i8 2, .int .i8 3, .int .i8 2, .int .i8 2, .int .i8 0, .int .i8 1, .int .i8 2][k]'hk = .int .i8 (ar k) := by
        have : k = 0 ∨ k = 1 ∨ k = 2 ∨ k = 3 ∨ k = 4 ∨ k = 5 ∨ k = 6 ∨ k = 7 ∨ k = 8 ∨ k = 9 ∨ k = 10 ∨ k = 11 ∨ k = 12 := by omega
        rcases this with rfl | rfl | rfl | rfl | rfl | rfl | rfl | rfl | rfl | rfl | rfl | rfl | rfl <;> rfl
      clear g g13
      have hT' := Lib.hid hT
      clear hT
      go_enter Try.func55, Try.ntmps55
      go_wp2
      go_quiet (fail)
      go_wp2
      go_ret3
      exact ⟨by rw [hr.out]; exact congrArg (fun z => Ending.returned (.tuple #[z, z, .bool true])) hT'.out, below_drewN ((Below.refl _ _).alloc (Nat.le_refl _) _) _⟩
end Go.Proofs.Ytecmoahadckomaa

namespace Go.Proofs.Ytecmoahadckomaa
open Go.RowKit

def Nd.arg (e : Nd) : Nat → Int
  | 0 => e.a0
  | 1 => e.a1
  | _ => e.a2
def argP (e : Nd) (at_ : Int) (i : Nat) : Prop := ((i : Int) < e.len → 0 ≤ e.arg i ∧ e.arg i < at_) ∧ (e.len ≤ i → e.arg i = 0)
structure StandsP (e : Nd) (at_ : Int) : Prop where
  kind : ar e.op ≠ -2
  len : 0 ≤ ar e.op → e.len = ar e.op
  len0 : 0 ≤ e.len
  len3 : e.len ≤ 3
  sort0 : 0 ≤ e.sort
  sort6 : e.sort < 6
  arg0 : argP e at_ 0
  arg1 : argP e at_ 1
  arg2 : argP e at_ 2
  fn0 : 0 ≤ e.fn
  fn12 : e.fn < 12
  app : e.fn ≠ 0 → e.op = 13
  num : e.op = 10 ∨ e.op = 11 ∨ e.op = 12 → mayB e.num = true
  num0 : e.op ≠ 10 → e.op ≠ 11 → e.op ≠ 12 → e.num = 0
noncomputable def standsB (e : Nd) (at_ : Int) : Bool := @decide (StandsP e at_) (Classical.propDecidable _)
theorem stands_yes {e : Nd} {at_ : Int} (h : StandsP e at_) : standsB e at_ = true := by unfold standsB; exact @decide_eq_true _ (Classical.propDecidable _) h
theorem stands_no {e : Nd} {at_ : Int} (h : ¬ StandsP e at_) : standsB e at_ = false := by unfold standsB; exact @decide_eq_false _ (Classical.propDecidable _) h
theorem stands_iff {e : Nd} {at_ : Int} : standsB e at_ = true ↔ StandsP e at_ :=
  ⟨fun h => by
    rcases Classical.em (StandsP e at_) with h1 | h1
    · exact h1
    · rw [stands_no h1] at h; exact absurd h (by decide), stands_yes⟩
theorem ar_range (op : Int) : ar op = -2 ∨ ar op = -1 ∨ ar op = 0 ∨ ar op = 1 ∨ ar op = 2 ∨ ar op = 3 := by
  unfold ar; (repeat' split) <;> omega
theorem arV_some {op : Int} (h : ar op ≠ -2) : ∃ lo hi, arV op = .tuple #[.int .i8 lo, .int .i8 hi, .bool true] ∧ (0 ≤ lo ∧ lo ≤ 3) ∧ (0 ≤ hi ∧ hi ≤ 3) ∧ ∀ len : Int, (lo ≤ len ∧ len ≤ hi) ↔ ((0 ≤ ar op → len = ar op) ∧ 0 ≤ len ∧ len ≤ 3) := by
  have hr := ar_range op
  unfold arV
  rw [if_neg h]
  by_cases h1 : ar op = -1
  · rw [if_pos h1]; exact ⟨0, 3, rfl, by omega, by omega, fun len => by omega⟩
  · rw [if_neg h1]; exact ⟨_, _, rfl, by omega, by omega, fun len => by omega⟩

theorem run_ix0 (W : World) (a b c : Int) : (Instr.index 37 (.agg #[.int .i64 a, .int .i64 b, .int .i64 c]) (.int .i64 0)).run Try.prog W = .ok (.int .i64 a) W := by kernel_rfl
theorem run_ix1 (W : World) (a b c : Int) : (Instr.index 37 (.agg #[.int .i64 a, .int .i64 b, .int .i64 c]) (.int .i64 1)).run Try.prog W = .ok (.int .i64 b) W := by kernel_rfl
theorem run_ix2 (W : World) (a b c : Int) : (Instr.index 37 (.agg #[.int .i64 a, .int .i64 b, .int .i64 c]) (.int .i64 2)).run Try.prog W = .ok (.int .i64 c) W := by kernel_rfl
theorem run_ix (e : Nd) (j : Nat) (hj : j < 3) (W : World) : (Instr.index 37 (.agg #[.int .i64 e.a0, .int .i64 e.a1, .int .i64 e.a2]) (.int .i64 j)).run Try.prog W = .ok (.int .i64 (e.arg j)) W := by
  have h : j = 0 ∨ j = 1 ∨ j = 2 := by omega
  rcases h with rfl | rfl | rfl
  · exact run_ix0 W _ _ _
  · exact run_ix1 W _ _ _
  · exact run_ix2 W _ _ _
theorem arg_R {e : Nd} (h : NdR e) (j : Nat) : R64 (e.arg j) := by
  unfold Nd.arg
  split
  · exact h.a0
  · exact h.a1
  · exact h.a2
theorem stands_arg {e : Nd} {at_ : Int} {j : Nat} (hj : j < 3) (h : ¬ argP e at_ j) : ¬ StandsP e at_ := fun hs => by
  have h3 : j = 0 ∨ j = 1 ∨ j = 2 := by omega
  rcases h3 with rfl | rfl | rfl
  · exact h hs.arg0
  · exact h hs.arg1
  · exact h hs.arg2

set_option maxRecDepth 100000 in
set_option maxHeartbeats 2000000 in
theorem Stands_any (e : Nd) (b o : Nat) (at_ : Int) (w : World) (hr : NdR e) (h : NdIn w b o e) (hb : b < w.heap.size) (_hat : R64 at_) :
    Calls Try.prog 32 #[.pointer (some ⟨b, o, none⟩), .int .i64 at_] w fun x w' => x = .returned (.bool (standsB e at_)) ∧ Below w.heap.size w w' := by
  obtain ⟨c0, c1, c2, c3, c4, c5, c6, c7⟩ := h
  have hr0 := hr
  obtain ⟨hop, hlen, ha0, ha1, ha2, hsort, hfn, hnum⟩ := hr
  by_cases hk2 : ar e.op = -2
  · have hno := Lib.hid (stands_no (e := e) (at_ := at_) fun h => h.kind hk2)
    have hv : Hid (arV e.op = .tuple #[.int .i8 0, .int .i8 0, .bool false]) := by unfold arV Hid; rw [if_pos hk2]
    clear hk2
    go_enter Try.func32, Try.ntmps32
    go_wp2_with fail
    refine (Arity_any e.op w hop).mono ?_
    rintro x w1 ⟨rfl, hb1⟩
    rw [hv.out]
    go_wp2
    go_ret
    exact ⟨ret_bool hno.out.symm, hb1⟩
  · obtain ⟨lo, hi, hv, hlo, hhi, hlen'⟩ := arV_some hk2
    have hv' := Lib.hid hv
    have hl := Lib.hid (hlen' e.len)
    clear hv hlen'
    by_cases hL : lo ≤ e.len ∧ e.len ≤ hi ∧ 0 ≤ e.sort ∧ e.sort < 6
    · have hP := Lib.hid hL
      obtain ⟨l0, l1, l2, l3⟩ := hL
      go_enter Try.func32, Try.ntmps32
      go_wp2_with fail
      refine (Arity_any e.op w hop).mono ?_
      rintro x w1 ⟨rfl, hb1⟩
      rw [hv'.out]
      obtain ⟨b0, b1⟩ := bcell hb1
      rw [← b0 b _ hb] at c0 c1 c2 c3 c4 c5 c6 c7
      go_wp2
      clear b0 b1
      go_loop [55] (fun i => ∃ j : Nat, j ≤ 3 ∧ i = .int .i64 j ∧ Hid (∀ r, r < j → argP e at_ r)) (fun i => 3 - (intOf i).toNat)
      case atStart => exact ⟨0, by omega, rfl, fun r h => by omega⟩
      case round =>
        obtain ⟨j, hj, rfl, hs⟩ := hrel
        by_cases hlt : j < 3
        · clear c0 c2 c3 c4 c5 c6 c7
          have hx := run_ix e j hlt
          obtain ⟨r0, r1⟩ := arg_R hr0 j
          by_cases k0 : (j : Int) < e.len
          · have d0 : decide ((j : Int) < e.len) = true := by simpa using k0
            have d1 : decide (e.len ≤ (j : Int)) = false := by simp; omega
            by_cases k1 : e.arg j < 0
            · have d2 : decide (e.arg j < 0) = true := by simpa using k1
              have hno := Lib.hid (stands_no (stands_arg (e := e) (at_ := at_) hlt fun h => by have := (h.1 k0).1; omega))
              clear k0 k1
              generalize e.arg j = a at *
              go_wp2
              go_ret
              exact ⟨ret_bool hno.out.symm, hb1⟩
            have d2 : decide (e.arg j < 0) = false := by simpa using k1
            by_cases k2 : at_ ≤ e.arg j
            · have d3 : decide (at_ ≤ e.arg j) = true := by simpa using k2
              have hno := Lib.hid (stands_no (stands_arg (e := e) (at_ := at_) hlt fun h => by have := (h.1 k0).2; omega))
              clear k0 k1 k2
              generalize e.arg j = a at *
              go_wp2
              go_ret
              exact ⟨ret_bool hno.out.symm, hb1⟩
            have d3 : decide (at_ ≤ e.arg j) = false := by simpa using k2
            have hA := Lib.hid (show argP e at_ j from ⟨fun h => by omega, fun h => by omega⟩)
            clear k0 k1 k2
            generalize e.arg j = a at *
            go_wp2
            go_round
            case rel =>
              refine ⟨j + 1, by omega, by go_num, fun r h => ?_⟩
              by_cases er : r = j
              · subst er; exact hA.out
              · exact hs.out r (by omega)
            case measure => simp [intOf]; omega
          · have d0 : decide ((j : Int) < e.len) = false := by simpa using k0
            have d1 : decide (e.len ≤ (j : Int)) = true := by simp; omega
            by_cases k1 : e.arg j = 0
            · have d2 : (e.arg j != 0) = false := by simp [k1]
              have hA := Lib.hid (show argP e at_ j from ⟨fun h => absurd h k0, fun h => k1⟩)
              clear k0 k1
              generalize e.arg j = a at *
              go_wp2
              go_round
              case rel =>
                refine ⟨j + 1, by omega, by go_num, fun r h => ?_⟩
                by_cases er : r = j
                · subst er; exact hA.out
                · exact hs.out r (by omega)
              case measure => simp [intOf]; omega
            have d2 : (e.arg j != 0) = true := by simpa using k1
            have hno := Lib.hid (stands_no (stands_arg (e := e) (at_ := at_) hlt fun h => by exact k1 (h.2 (by omega))))
            clear k0 k1
            generalize e.arg j = a at *
            go_wp2
            go_ret
            exact ⟨ret_bool hno.out.symm, hb1⟩
        · have hargs : Hid (∀ r, r < 3 → argP e at_ r) := fun r h => hs.out r (by omega)
          clear hs
          by_cases hF : 0 ≤ e.fn ∧ e.fn < 12 ∧ (e.fn ≠ 0 → e.op = 13)
          · have hF' := Lib.hid hF
            have hmk : Hid ((e.op = 10 ∨ e.op = 11 ∨ e.op = 12 → mayB e.num = true) → (e.op ≠ 10 → e.op ≠ 11 → e.op ≠ 12 → e.num = 0) → StandsP e at_) := fun h1 h2 => by
              have := hl.out.1 ⟨hP.out.1, hP.out.2.1⟩
              exact ⟨hk2, this.1, this.2.1, this.2.2, hP.out.2.2.1, hP.out.2.2.2, hargs.out 0 (by omega), hargs.out 1 (by omega), hargs.out 2 (by omega), hF'.out.1, hF'.out.2.1, hF'.out.2.2, h1, h2⟩
            have f0 : decide (e.fn < 0) = false := by simp; omega
            have f1 : decide (12 ≤ e.fn) = false := by simp; omega
            by_cases gp : 0 < e.fn
            · have f2 : decide (0 < e.fn) = true := by simpa using gp
              have o13 : e.op = 13 := by omega
              have o10 : e.op ≠ 10 := by omega
              have o11 : e.op ≠ 11 := by omega
              have o12 : e.op ≠ 12 := by omega
              have f3 : (e.op != 13) = false := by simp [o13]
              have n10 : (e.op == 10) = false := by simpa using o10
              have n11 : (e.op == 11) = false := by simpa using o11
              have n12 : (e.op == 12) = false := by simpa using o12
              clear hF gp o13
              by_cases z0 : e.num = 0
              · have hyes := Lib.hid (stands_yes (hmk.out (fun h => by omega) (fun _ _ _ => z0)))
                have d0 : (e.num == 0) = true := by simp [z0]
                clear z0 o10 o11 o12
                go_wp2
                go_ret
                exact ⟨ret_bool hyes.out.symm, hb1⟩
              · have hno := Lib.hid (stands_no (e := e) (at_ := at_) fun h => z0 (h.num0 o10 o11 o12))
                have d0 : (e.num == 0) = false := by simpa using z0
                clear z0 o10 o11 o12
                go_wp2
                go_ret
                exact ⟨ret_bool hno.out.symm, hb1⟩
            have f2 : decide (0 < e.fn) = false := by simpa using gp
            clear hF gp
            by_cases o10 : e.op = 10
            · have hm : Hid (standsB e at_ = mayB e.num) := by
                cases hmy : mayB e.num with
                | true => exact stands_yes (hmk.out (fun _ => hmy) (fun h1 h2 h3 => by omega))
                | false => exact stands_no fun h => by rw [h.num (by omega)] at hmy; cases hmy
              have n10 : (e.op == 10) = true := by simp [o10]
              obtain ⟨m0, m1⟩ := hnum
              clear o10
              go_wp2_with fail
              refine (May_any e.num w1 m0 m1).mono ?_
              rintro x w2 ⟨rfl, rfl⟩
              go_wp2
              go_ret
              exact ⟨ret_bool hm.out.symm, hb1⟩
            have n10 : (e.op == 10) = false := by simpa using o10
            by_cases o11 : e.op = 11
            · have hm : Hid (standsB e at_ = mayB e.num) := by
                cases hmy : mayB e.num with
                | true => exact stands_yes (hmk.out (fun _ => hmy) (fun h1 h2 h3 => by omega))
                | false => exact stands_no fun h => by rw [h.num (by omega)] at hmy; cases hmy
              have n11 : (e.op == 11) = true := by simp [o11]
              obtain ⟨m0, m1⟩ := hnum
              clear o11
              go_wp2_with fail
              refine (May_any e.num w1 m0 m1).mono ?_
              rintro x w2 ⟨rfl, rfl⟩
              go_wp2
              go_ret
              exact ⟨ret_bool hm.out.symm, hb1⟩
            have n11 : (e.op == 11) = false := by simpa using o11
            by_cases o12 : e.op = 12
            · have hm : Hid (standsB e at_ = mayB e.num) := by
                cases hmy : mayB e.num with
                | true => exact stands_yes (hmk.out (fun _ => hmy) (fun h1 h2 h3 => by omega))
                | false => exact stands_no fun h => by rw [h.num (by omega)] at hmy; cases hmy
              have n12 : (e.op == 12) = true := by simp [o12]
              obtain ⟨m0, m1⟩ := hnum
              clear o12
              go_wp2_with fail
              refine (May_any e.num w1 m0 m1).mono ?_
              rintro x w2 ⟨rfl, rfl⟩
              go_wp2
              go_ret
              exact ⟨ret_bool hm.out.symm, hb1⟩
            have n12 : (e.op == 12) = false := by simpa using o12
            by_cases z0 : e.num = 0
            · have hyes := Lib.hid (stands_yes (hmk.out (fun h => by omega) (fun _ _ _ => z0)))
              have d0 : (e.num == 0) = true := by simp [z0]
              clear z0 o10 o11 o12
              go_wp2
              go_ret
              exact ⟨ret_bool hyes.out.symm, hb1⟩
            · have hno := Lib.hid (stands_no (e := e) (at_ := at_) fun h => z0 (h.num0 o10 o11 o12))
              have d0 : (e.num == 0) = false := by simpa using z0
              clear z0 o10 o11 o12
              go_wp2
              go_ret
              exact ⟨ret_bool hno.out.symm, hb1⟩
          · by_cases g0 : e.fn < 0
            · have f0 : decide (e.fn < 0) = true := by simpa using g0
              have hno := Lib.hid (stands_no (e := e) (at_ := at_) fun h => hF ⟨h.fn0, h.fn12, h.app⟩)
              clear hF g0
              go_wp2
              go_ret
              exact ⟨ret_bool hno.out.symm, hb1⟩
            have f0 : decide (e.fn < 0) = false := by simpa using g0
            by_cases g1 : 12 ≤ e.fn
            · have f1 : decide (12 ≤ e.fn) = true := by simpa using g1
              have hno := Lib.hid (stands_no (e := e) (at_ := at_) fun h => hF ⟨h.fn0, h.fn12, h.app⟩)
              clear hF g0 g1
              go_wp2
              go_ret
              exact ⟨ret_bool hno.out.symm, hb1⟩
            have f1 : decide (12 ≤ e.fn) = false := by simpa using g1
            have f2 : decide (0 < e.fn) = true := by simp; omega
            have f3 : (e.op != 13) = true := by simp; omega
            have hno := Lib.hid (stands_no (e := e) (at_ := at_) fun h => hF ⟨h.fn0, h.fn12, h.app⟩)
            clear hF g0 g1
            go_wp2
            go_ret
            exact ⟨ret_bool hno.out.symm, hb1⟩
    · have hno := Lib.hid (stands_no (e := e) (at_ := at_) fun h => hL (by have := hl.out.2 ⟨h.len, h.len0, h.len3⟩; exact ⟨this.1, this.2, h.sort0, h.sort6⟩))
      have hL' := Lib.hid hL
      clear hL
      go_enter Try.func32, Try.ntmps32
      go_wp2_with fail
      refine (Arity_any e.op w hop).mono ?_
      rintro x w1 ⟨rfl, hb1⟩
      rw [hv'.out]
      obtain ⟨b0, b1⟩ := bcell hb1
      rw [← b0 b _ hb] at c0 c1 c2 c3 c4 c5 c6 c7
      go_wp2
      all_goals first
        | (exact absurd ⟨by omega, by omega, by omega, by omega⟩ hL'.out)
        | (go_ret
           exact ⟨ret_bool hno.out.symm, hb1⟩)
end Go.Proofs.Ytecmoahadckomaa
