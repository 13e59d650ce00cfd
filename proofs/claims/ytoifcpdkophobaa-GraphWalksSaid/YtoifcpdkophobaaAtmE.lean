/- eval.AtMost. -/
import Derived.Test.YtoifcpdkophobaaAtmR
namespace Go.Proofs.Ytoifcpdkophobaa
open Go.RowKit

theorem wrap_u64 (n : Int) : IntKind.u64.wrap n = n % 18446744073709551616 := by
  unfold IntKind.wrap
  rfl

set_option maxHeartbeats 400000 in
theorem AtMost_any (a b n : Int) (w : World) (ha : R64 a) (hb : R64 b) (hn : R64 n) :
    Calls Try.prog 31 #[.int .i64 a, .int .i64 b, .int .i64 n] w fun e w' => e = .returned (.bool (atmB a b n)) ∧ w = w' := by
  obtain ⟨a0, a1⟩ := ha
  obtain ⟨b0, b1⟩ := hb
  obtain ⟨n0, n1⟩ := hn
  by_cases ga : -4611686018427387904 ≤ a ∧ a ≤ 4611686018427387904
  · by_cases gb : -4611686018427387904 ≤ b ∧ b ≤ 4611686018427387904
    · by_cases gn : -4611686018427387904 ≤ n ∧ n ≤ 4611686018427387904
      · obtain ⟨ga0, ga1⟩ := ga
        obtain ⟨gb0, gb1⟩ := gb
        obtain ⟨gn0, gn1⟩ := gn
        by_cases t : b ≤ a
        · have t1 : decide (b ≤ a) = true := by simpa using t
          have e1 : IntKind.u64.wrap (IntKind.u64.wrap a - IntKind.u64.wrap b) = a - b := by rw [wrap_u64, wrap_u64, wrap_u64]; omega
          by_cases u : 0 ≤ n
          · have u1 : decide (0 ≤ n) = true := by simpa using u
            have e2 : IntKind.u64.wrap n = n := by rw [wrap_u64]; omega
            have hr : Hid (atmB a b n = decide (a - b ≤ n)) := by unfold atmB Hid; rw [Bool.eq_iff_iff]; simp; omega
            clear t u
            go_enter Try.func31, Try.ntmps31
            go_wp2_with fail
            refine (May_any a w a0 a1).mono ?_
            rintro e w1 ⟨rfl, rfl⟩
            rw [mayB_true ga0 ga1]
            go_wp2_with fail
            refine (May_any b w b0 b1).mono ?_
            rintro e w1 ⟨rfl, rfl⟩
            rw [mayB_true gb0 gb1]
            go_wp2_with fail
            refine (May_any n w n0 n1).mono ?_
            rintro e w1 ⟨rfl, rfl⟩
            rw [mayB_true gn0 gn1]
            go_wp2
            go_ret
            exact ⟨ret_bool hr.out.symm, rfl⟩
          · have u1 : decide (0 ≤ n) = false := by simpa using u
            have hr : Hid (atmB a b n = false) := by unfold atmB Hid; simp; omega
            clear t u
            go_enter Try.func31, Try.ntmps31
            go_wp2_with fail
            refine (May_any a w a0 a1).mono ?_
            rintro e w1 ⟨rfl, rfl⟩
            rw [mayB_true ga0 ga1]
            go_wp2_with fail
            refine (May_any b w b0 b1).mono ?_
            rintro e w1 ⟨rfl, rfl⟩
            rw [mayB_true gb0 gb1]
            go_wp2_with fail
            refine (May_any n w n0 n1).mono ?_
            rintro e w1 ⟨rfl, rfl⟩
            rw [mayB_true gn0 gn1]
            go_wp2
            go_ret
            exact ⟨ret_bool hr.out.symm, rfl⟩
        · have t1 : decide (b ≤ a) = false := by simpa using t
          have e1 : IntKind.u64.wrap (IntKind.u64.wrap b - IntKind.u64.wrap a) = b - a := by rw [wrap_u64, wrap_u64, wrap_u64]; omega
          by_cases u : 0 ≤ n
          · have u1 : decide (0 ≤ n) = true := by simpa using u
            have hr : Hid (atmB a b n = true) := by unfold atmB Hid; simp; omega
            clear t u
            go_enter Try.func31, Try.ntmps31
            go_wp2_with fail
            refine (May_any a w a0 a1).mono ?_
            rintro e w1 ⟨rfl, rfl⟩
            rw [mayB_true ga0 ga1]
            go_wp2_with fail
            refine (May_any b w b0 b1).mono ?_
            rintro e w1 ⟨rfl, rfl⟩
            rw [mayB_true gb0 gb1]
            go_wp2_with fail
            refine (May_any n w n0 n1).mono ?_
            rintro e w1 ⟨rfl, rfl⟩
            rw [mayB_true gn0 gn1]
            go_wp2
            go_ret
            exact ⟨ret_bool hr.out.symm, rfl⟩
          · have u1 : decide (0 ≤ n) = false := by simpa using u
            have e2 : IntKind.u64.wrap (-n) = -n := by rw [wrap_u64]; omega
            have hr : Hid (atmB a b n = decide (-n ≤ b - a)) := by unfold atmB Hid; rw [Bool.eq_iff_iff]; simp; omega
            clear t u
            go_enter Try.func31, Try.ntmps31
            go_wp2_with fail
            refine (May_any a w a0 a1).mono ?_
            rintro e w1 ⟨rfl, rfl⟩
            rw [mayB_true ga0 ga1]
            go_wp2_with fail
            refine (May_any b w b0 b1).mono ?_
            rintro e w1 ⟨rfl, rfl⟩
            rw [mayB_true gb0 gb1]
            go_wp2_with fail
            refine (May_any n w n0 n1).mono ?_
            rintro e w1 ⟨rfl, rfl⟩
            rw [mayB_true gn0 gn1]
            go_wp2
            go_ret
            exact ⟨ret_bool hr.out.symm, rfl⟩
      · have hr : Hid (atmB a b n = false) := by unfold atmB Hid; simp; omega
        obtain ⟨ga0, ga1⟩ := ga
        obtain ⟨gb0, gb1⟩ := gb
        go_enter Try.func31, Try.ntmps31
        go_wp2_with fail
        refine (May_any a w a0 a1).mono ?_
        rintro e w1 ⟨rfl, rfl⟩
        rw [mayB_true ga0 ga1]
        go_wp2_with fail
        refine (May_any b w b0 b1).mono ?_
        rintro e w1 ⟨rfl, rfl⟩
        rw [mayB_true gb0 gb1]
        go_wp2_with fail
        refine (May_any n w n0 n1).mono ?_
        rintro e w1 ⟨rfl, rfl⟩
        rw [mayB_false (by omega)]
        go_wp2
        go_ret
        exact ⟨ret_bool hr.out.symm, rfl⟩
    · have hr : Hid (atmB a b n = false) := by unfold atmB Hid; simp; omega
      obtain ⟨ga0, ga1⟩ := ga
      go_enter Try.func31, Try.ntmps31
      go_wp2_with fail
      refine (May_any a w a0 a1).mono ?_
      rintro e w1 ⟨rfl, rfl⟩
      rw [mayB_true ga0 ga1]
      go_wp2_with fail
      refine (May_any b w b0 b1).mono ?_
      rintro e w1 ⟨rfl, rfl⟩
      rw [mayB_false (by omega)]
      go_wp2
      go_ret
      exact ⟨ret_bool hr.out.symm, rfl⟩
  · have hr : Hid (atmB a b n = false) := by unfold atmB Hid; simp; omega
    go_enter Try.func31, Try.ntmps31
    go_wp2_with fail
    refine (May_any a w a0 a1).mono ?_
    rintro e w1 ⟨rfl, rfl⟩
    rw [mayB_false (by omega)]
    go_wp2
    go_ret
    exact ⟨ret_bool hr.out.symm, rfl⟩
end Go.Proofs.Ytoifcpdkophobaa
