/- gantryref10.fits, gantryref10.AtMost. -/
import Derived.Test.YtioceechdombjaaNum
import Derived.Laws.BitsAllLaws
import Derived.Laws.BitsLemmas
namespace Go.Proofs.Ytioceechdombjaa
open Go.RowKit

def atmB (a b n : Int) : Bool := decide ((-4611686018427387904 ≤ a ∧ a ≤ 4611686018427387904) ∧ (-4611686018427387904 ≤ b ∧ b ≤ 4611686018427387904) ∧ (-4611686018427387904 ≤ n ∧ n ≤ 4611686018427387904) ∧ a - b ≤ n)

theorem fits10_any (n : Int) (w : World) (h0 : -9223372036854775808 ≤ n) (h1 : n ≤ 9223372036854775807) :
    Calls Try.prog 48 #[.int .i64 n] w fun e w' => e = .returned (.bool (mayB n)) ∧ w = w' := by
  go_enter Try.func48, Try.ntmps48
  go_wp2
  all_goals (go_ret; exact ⟨ret_bool (by unfold mayB; rw [Bool.eq_iff_iff]; simp; omega), rfl⟩)

theorem i64_and_one (a : Int) : bits BinOp.and IntKind.i64 a 1 = a % 2 := by
  show IntKind.i64.wrap ((BitVec.ofInt 64 a &&& BitVec.ofInt 64 1).toNat : Int) = _
  rw [BitVec.toNat_and, show (BitVec.ofInt 64 1).toNat = 1 from rfl, Nat.and_one_is_mod, BitVec.toNat_ofInt, IntKind.wrap_i64]
  omega

set_option maxHeartbeats 400000 in
theorem RAtMost_any (a b n : Int) (w : World) (ha : R64 a) (hb : R64 b) (hn : R64 n) :
    Calls Try.prog 35 #[.int .i64 a, .int .i64 b, .int .i64 n] w fun e w' => e = .returned (.bool (atmB a b n)) ∧ w = w' := by
  obtain ⟨a0, a1⟩ := ha
  obtain ⟨b0, b1⟩ := hb
  obtain ⟨n0, n1⟩ := hn
  have ea := i64_and_one a
  have eb := i64_and_one b
  have en := i64_and_one n
  by_cases ga : -4611686018427387904 ≤ a ∧ a ≤ 4611686018427387904
  · by_cases gb : -4611686018427387904 ≤ b ∧ b ≤ 4611686018427387904
    · by_cases gn : -4611686018427387904 ≤ n ∧ n ≤ 4611686018427387904
      · obtain ⟨ga0, ga1⟩ := ga
        obtain ⟨gb0, gb1⟩ := gb
        obtain ⟨gn0, gn1⟩ := gn
        go_enter Try.func35, Try.ntmps35
        go_wp2_with fail
        refine (fits10_any a w a0 a1).mono ?_
        rintro e w1 ⟨rfl, rfl⟩
        rw [mayB_true ga0 ga1]
        go_wp2_with fail
        refine (fits10_any b w b0 b1).mono ?_
        rintro e w1 ⟨rfl, rfl⟩
        rw [mayB_true gb0 gb1]
        go_wp2_with fail
        refine (fits10_any n w n0 n1).mono ?_
        rintro e w1 ⟨rfl, rfl⟩
        rw [mayB_true gn0 gn1]
        go_wp2
        all_goals (go_ret; exact ⟨ret_bool (by unfold atmB; rw [Bool.eq_iff_iff]; simp; omega), rfl⟩)
      · have hr : Hid (atmB a b n = false) := by unfold atmB Hid; simp; omega
        obtain ⟨ga0, ga1⟩ := ga
        obtain ⟨gb0, gb1⟩ := gb
        go_enter Try.func35, Try.ntmps35
        go_wp2_with fail
        refine (fits10_any a w a0 a1).mono ?_
        rintro e w1 ⟨rfl, rfl⟩
        rw [mayB_true ga0 ga1]
        go_wp2_with fail
        refine (fits10_any b w b0 b1).mono ?_
        rintro e w1 ⟨rfl, rfl⟩
        rw [mayB_true gb0 gb1]
        go_wp2_with fail
        refine (fits10_any n w n0 n1).mono ?_
        rintro e w1 ⟨rfl, rfl⟩
        rw [mayB_false (by omega)]
        go_wp2
        go_ret
        exact ⟨ret_bool hr.out.symm, rfl⟩
    · have hr : Hid (atmB a b n = false) := by unfold atmB Hid; simp; omega
      obtain ⟨ga0, ga1⟩ := ga
      go_enter Try.func35, Try.ntmps35
      go_wp2_with fail
      refine (fits10_any a w a0 a1).mono ?_
      rintro e w1 ⟨rfl, rfl⟩
      rw [mayB_true ga0 ga1]
      go_wp2_with fail
      refine (fits10_any b w b0 b1).mono ?_
      rintro e w1 ⟨rfl, rfl⟩
      rw [mayB_false (by omega)]
      go_wp2
      go_ret
      exact ⟨ret_bool hr.out.symm, rfl⟩
  · have hr : Hid (atmB a b n = false) := by unfold atmB Hid; simp; omega
    go_enter Try.func35, Try.ntmps35
    go_wp2_with fail
    refine (fits10_any a w a0 a1).mono ?_
    rintro e w1 ⟨rfl, rfl⟩
    rw [mayB_false (by omega)]
    go_wp2
    go_ret
    exact ⟨ret_bool hr.out.symm, rfl⟩
end Go.Proofs.Ytioceechdombjaa
