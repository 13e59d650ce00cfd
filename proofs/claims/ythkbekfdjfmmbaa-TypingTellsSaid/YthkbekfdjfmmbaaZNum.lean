/- Contracts of the functions on single numbers: num.May, gantryref01.May. -/
import Derived.Test.YthkbekfdjfmmbaaZInts
namespace Go.Proofs.Ythkbekfdjfmmbaa
open Go.RowKit

def mayB (n : Int) : Bool := decide (-4611686018427387904 ≤ n ∧ n ≤ 4611686018427387904)
theorem mayB_true {n : Int} (h0 : -4611686018427387904 ≤ n) (h1 : n ≤ 4611686018427387904) : mayB n = true := by
  unfold mayB; simp; omega
theorem mayB_false {n : Int} (h : n < -4611686018427387904 ∨ 4611686018427387904 < n) : mayB n = false := by
  unfold mayB; simp; omega

theorem May_any (n : Int) (w : World) (h0 : -9223372036854775808 ≤ n) (h1 : n ≤ 9223372036854775807) :
    Calls Try.prog 98 #[.int .i64 n] w fun e w' => e = .returned (.bool (mayB n)) ∧ w = w' := by
  go_enter Try.func98, Try.ntmps98
  go_wp2
  all_goals (go_ret; exact ⟨ret_bool (by unfold mayB; rw [Bool.eq_iff_iff]; simp; omega), rfl⟩)

theorem RMay_any (n : Int) (w : World) (h0 : -9223372036854775808 ≤ n) (h1 : n ≤ 9223372036854775807) :
    Calls Try.prog 82 #[.int .i64 n] w fun e w' => e = .returned (.bool (mayB n)) ∧ w = w' := by
  go_enter Try.func82, Try.ntmps82
  go_wp2
  all_goals (go_ret; exact ⟨ret_bool (by unfold mayB; rw [Bool.eq_iff_iff]; simp; omega), rfl⟩)
end Go.Proofs.Ythkbekfdjfmmbaa
