/- gantryref10.AtMost. -/
import Derived.Test.YtofcjpfbbeamnaaZEvPEvQ
import Derived.BigFrame
namespace Go.Proofs.Ytofcjpfbbeamnaa
open Go.RowKit
set_option maxRecDepth 100000

theorem bits_one (x : Int) : bits BinOp.and IntKind.i64 x 1 = x % 2 := by
  have h : ((BitVec.ofInt IntKind.i64.bits x) &&& (BitVec.ofInt IntKind.i64.bits 1)).toNat = (x % 18446744073709551616).toNat % 2 := by
    rw [BitVec.toNat_and, show (BitVec.ofInt IntKind.i64.bits 1).toNat = 1 by decide, Nat.and_one_is_mod, BitVec.toNat_ofInt]
    rfl
  unfold bits
  show IntKind.i64.wrap (((BitVec.ofInt IntKind.i64.bits x) &&& (BitVec.ofInt IntKind.i64.bits 1)).toNat : Int) = x % 2
  rw [h, IntKind.wrap_i64]
  · omega
theorem RFits10_any (n : Int) (w : World) : Calls Try.prog 59 #[.int .i64 n] w fun e w' => e = .returned (.bool (mayB n)) ∧ w' = w := by
  have hR : Hid (mayB n = decide (-4611686018427387904 ≤ n ∧ n ≤ 4611686018427387904)) := by unfold Hid mayB; first | rfl | (rw [Bool.eq_iff_iff]; simp)
  go_enter Try.func59, Try.ntmps59
  by_cases h : -4611686018427387904 ≤ n
  · have d1 : decide (-4611686018427387904 ≤ n) = true := decide_eq_true h
    by_cases h2 : n ≤ 4611686018427387904
    · have d2 : decide (n ≤ 4611686018427387904) = true := decide_eq_true h2
      have hF : Hid (mayB n = true) := by unfold Hid; rw [hR.out]; exact decide_eq_true ⟨h, h2⟩
      clear h h2
      go_wp2
      go_ret
      exact ⟨by rw [hF.out]; rfl, rfl⟩
    · have d2 : decide (n ≤ 4611686018427387904) = false := decide_eq_false h2
      have hF : Hid (mayB n = false) := by unfold Hid; rw [hR.out]; exact decide_eq_false (fun h => h2 h.2)
      clear h h2
      go_wp2
      go_ret
      exact ⟨by rw [hF.out]; rfl, rfl⟩
  · have d1 : decide (-4611686018427387904 ≤ n) = false := decide_eq_false h
    have hF : Hid (mayB n = false) := by unfold Hid; rw [hR.out]; exact decide_eq_false (fun h2 => h h2.1)
    clear h
    go_wp2
    go_ret
    exact ⟨by rw [hF.out]; rfl, rfl⟩
set_option maxHeartbeats 1000000 in
theorem R10AtMost_any (a b n : Int) (w : World) : Calls Try.prog 29 #[.int .i64 a, .int .i64 b, .int .i64 n] w fun e w' => e = .returned (.bool (atMB a b n)) ∧ w' = w := by
  have hMa := Lib.hid (RFits10_any a w)
  have hMb := Lib.hid (RFits10_any b w)
  have hMn := Lib.hid (RFits10_any n w)
  have hR : Hid (atMB a b n = (mayB a && mayB b && mayB n && decide (a - b ≤ n))) := rfl
  have la := Lib.hid fun h => may_lo (x := a) h
  have lb := Lib.hid fun h => may_lo (x := b) h
  have ln := Lib.hid fun h => may_lo (x := n) h
  go_enter Try.func29, Try.ntmps29
  generalize mayB a = qa at *
  generalize mayB b = qb at *
  generalize mayB n = qn at *
  go_wp2_with fail
  refine hMa.out.mono ?_
  rintro e w1 ⟨rfl, rfl⟩
  cases qa with
  | false =>
    have hF : Hid (atMB a b n = false) := by unfold Hid; rw [hR.out]; rfl
    go_wp2_with fail
    go_ret
    exact ⟨by rw [hF.out]; rfl, rfl⟩
  | true =>
  go_wp2_with fail
  refine hMb.out.mono ?_
  rintro e w1 ⟨rfl, rfl⟩
  cases qb with
  | false =>
    have hF : Hid (atMB a b n = false) := by unfold Hid; rw [hR.out]; rfl
    go_wp2_with fail
    go_ret
    exact ⟨by rw [hF.out]; rfl, rfl⟩
  | true =>
  go_wp2_with fail
  refine hMn.out.mono ?_
  rintro e w1 ⟨rfl, rfl⟩
  cases qn with
  | false =>
    have hF : Hid (atMB a b n = false) := by unfold Hid; rw [hR.out]; rfl
    go_wp2_with fail
    go_ret
    exact ⟨by rw [hF.out]; rfl, rfl⟩
  | true =>
  have hR2 : Hid (atMB a b n = decide (a - b ≤ n)) := by unfold Hid; rw [hR.out]; simp
  obtain ⟨a0, a1⟩ := la.out trivial
  obtain ⟨b0, b1⟩ := lb.out trivial
  obtain ⟨n0, n1⟩ := ln.out rfl
  have b1' := bits_one a
  have b2' := bits_one b
  have b3' := bits_one n
  go_wp2_with fail
  all_goals go_ret
  all_goals refine ⟨ret_bool ?_, rfl⟩
  all_goals rw [hR2.out, Bool.eq_iff_iff, decide_eq_true_eq, decide_eq_true_eq]
  all_goals (try unfold wrap64)
  all_goals omega
end Go.Proofs.Ytofcjpfbbeamnaa
