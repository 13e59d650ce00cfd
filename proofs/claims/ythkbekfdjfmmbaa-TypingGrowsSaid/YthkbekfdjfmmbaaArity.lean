/- term.arity, gantryref05.arity. -/
import Derived.Test.YthkbekfdjfmmbaaNode
import Derived.Test.YthkbekfdjfmmbaaNum
namespace Go.Proofs.Ythkbekfdjfmmbaa
open Go.RowKit

def ar (op : Int) : Int :=
  if op = 0 ∨ op = 10 then 0 else if op = 1 ∨ op = 11 then 1 else if (2 ≤ op ∧ op ≤ 6) ∨ op = 8 ∨ op = 9 ∨ op = 12 then 2 else if op = 7 then 3 else if op = 13 then -1 else -2
def arV (op : Int) : Value :=
  if ar op = -2 then .tuple #[.int .i8 0, .int .i8 0, .bool false] else if ar op = -1 then .tuple #[.int .i8 0, .int .i8 3, .bool true] else .tuple #[.int .i8 (ar op), .int .i8 (ar op), .bool true]
theorem ar_out {op : Int} (h : op < 0 ∨ 13 < op) : ar op = -2 := by
  unfold ar
  rw [if_neg (by omega), if_neg (by omega), if_neg (by omega), if_neg (by omega), if_neg (by omega)]
theorem op_cases {op : Int} (h0 : 0 ≤ op) (h1 : op ≤ 13) : op = 0 ∨ op = 1 ∨ op = 2 ∨ op = 3 ∨ op = 4 ∨ op = 5 ∨ op = 6 ∨ op = 7 ∨ op = 8 ∨ op = 9 ∨ op = 10 ∨ op = 11 ∨ op = 12 ∨ op = 13 := by omega

set_option maxHeartbeats 1000000 in
theorem RArity_any (op : Int) (w : World) (h : R8 op) :
    Calls Try.prog 81 #[.int .i8 op] w fun e w' => e = .returned (.int .i64 (ar op)) ∧ w = w' := by
  obtain ⟨h0, h1⟩ := h
  by_cases g : op < 0 ∨ 13 < op
  · have hr := Lib.hid (ar_out g)
    have n0 : (op == 0) = false := by simp; omega
    have n1 : (op == 1) = false := by simp; omega
    have n2 : (op == 2) = false := by simp; omega
    have n3 : (op == 3) = false := by simp; omega
    have n4 : (op == 4) = false := by simp; omega
    have n5 : (op == 5) = false := by simp; omega
    have n6 : (op == 6) = false := by simp; omega
    have n7 : (op == 7) = false := by simp; omega
    have n8 : (op == 8) = false := by simp; omega
    have n9 : (op == 9) = false := by simp; omega
    have n10 : (op == 10) = false := by simp; omega
    have n11 : (op == 11) = false := by simp; omega
    have n12 : (op == 12) = false := by simp; omega
    have n13 : (op == 13) = false := by simp; omega
    clear g
    go_enter Try.func81, Try.ntmps81
    go_wp2
    go_ret
    exact ⟨ret_int hr.out.symm, rfl⟩
  · rcases op_cases (op := op) (by omega) (by omega) with rfl | rfl | rfl | rfl | rfl | rfl | rfl | rfl | rfl | rfl | rfl | rfl | rfl | rfl
    all_goals
      go_enter Try.func81, Try.ntmps81
      go_wp2
      go_ret
      exact ⟨rfl, rfl⟩

set_option maxHeartbeats 1000000 in
theorem Arity_any (op : Int) (w : World) (h : R8 op) :
    Calls Try.prog 97 #[.int .i8 op] w fun e w' => e = .returned (arV op) ∧ Below w.heap.size w w' := by
  obtain ⟨h0, h1⟩ := h
  by_cases g : op < 0 ∨ 13 < op
  · have hr : Hid (arV op = .tuple #[.int .i8 0, .int .i8 0, .bool false]) := by unfold arV Hid; rw [if_pos (ar_out g)]
    have n13 : (op == 13) = false := by simp; omega
    go_enter Try.func97, Try.ntmps97
    go_wp2
    all_goals first
      | omega
      | (go_ret3
         exact ⟨by rw [hr.out]; rfl, (Below.refl _ _).alloc (Nat.le_refl _) _⟩)
  · by_cases g13 : op = 13
    · subst g13
      go_enter Try.func97, Try.ntmps97
      go_wp2
      go_ret3
      exact ⟨rfl, Below.refl _ _⟩
    · have n13 : (op == 13) = false := by simp; omega
      obtain ⟨k, rfl⟩ := Int.eq_ofNat_of_zero_le (show 0 ≤ op by omega)
      have hk : k < 13 := by omega
      have hr : Hid (arV k = .tuple #[.int .i8 (ar k), .int .i8 (ar k), .bool true]) := by
        have : ar k ≠ -2 ∧ ar k ≠ -1 := by unfold ar; constructor <;> (repeat' split) <;> omega
        unfold arV Hid; rw [if_neg this.1, if_neg this.2]
      have hT : [Value.int .i8 0, .int .i8 1, .int .i8 2, .int .i8 2, .int .i8 2, .int .i8 2, .int .i8 2, .int .i8 3, .int .i8 2, .int .i8 2, .int .i8 0, .int .i8 1, .int .i8 2][k]'hk = .int .i8 (ar k) := by
        have : k = 0 ∨ k = 1 ∨ k = 2 ∨ k = 3 ∨ k = 4 ∨ k = 5 ∨ k = 6 ∨ k = 7 ∨ k = 8 ∨ k = 9 ∨ k = 10 ∨ k = 11 ∨ k = 12 := by omega
        rcases this with rfl | rfl | rfl | rfl | rfl | rfl | rfl | rfl | rfl | rfl | rfl | rfl | rfl <;> rfl
      clear g g13
      have hT' := Lib.hid hT
      clear hT
      go_enter Try.func97, Try.ntmps97
      go_wp2
      go_quiet (fail)
      go_wp2
      go_ret3
      exact ⟨by rw [hr.out]; exact congrArg (fun z => Ending.returned (.tuple #[z, z, .bool true])) hT'.out, below_drewN ((Below.refl _ _).alloc (Nat.le_refl _) _) _⟩
end Go.Proofs.Ythkbekfdjfmmbaa
