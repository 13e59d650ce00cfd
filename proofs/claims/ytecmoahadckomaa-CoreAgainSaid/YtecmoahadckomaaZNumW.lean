/- Plain words on sums and differences of numbers (no program's text is walked here). -/
import Derived.Test.YtecmoahadckomaaZIntsNumBoxes
namespace Go.Proofs.Ytecmoahadckomaa
open Go.RowKit
def addOk (a b : Int) : Bool := mayB a && mayB b && mayB (a + b)
def subOk (a b : Int) : Bool := mayB a && mayB b && mayB (a - b)
theorem may_lo {x : Int} (h : mayB x = true) : -4611686018427387904 ≤ x ∧ x ≤ 4611686018427387904 := by unfold mayB at h; simpa using h
theorem addOk_wrap (a b : Int) : (mayB a && mayB b && mayB (wrap64 (a + b))) = addOk a b := by
  unfold addOk
  cases ha : mayB a with
  | false => simp
  | true =>
    cases hb : mayB b with
    | false => simp
    | true =>
      have := may_lo ha
      have := may_lo hb
      by_cases h : a + b ≤ 9223372036854775807
      · rw [show wrap64 (a + b) = a + b from by unfold wrap64; omega]
      · have e : wrap64 (a + b) = -9223372036854775808 := by unfold wrap64; omega
        rw [e, mayB_false (n := a + b) (by omega), mayB_false (n := -9223372036854775808) (by omega)]
theorem subOk_wrap (a b : Int) : (mayB a && mayB b && mayB (wrap64 (a - b))) = subOk a b := by
  unfold subOk
  cases ha : mayB a with
  | false => simp
  | true =>
    cases hb : mayB b with
    | false => simp
    | true =>
      have := may_lo ha
      have := may_lo hb
      by_cases h : a - b ≤ 9223372036854775807
      · rw [show wrap64 (a - b) = a - b from by unfold wrap64; omega]
      · have e : wrap64 (a - b) = -9223372036854775808 := by unfold wrap64; omega
        rw [e, mayB_false (n := a - b) (by omega), mayB_false (n := -9223372036854775808) (by omega)]
theorem addOk_val {a b : Int} (h : addOk a b = true) : wrap64 (a + b) = a + b := by
  unfold addOk at h
  simp only [Bool.and_eq_true] at h
  have := may_lo h.2
  unfold wrap64; omega
theorem subOk_val {a b : Int} (h : subOk a b = true) : wrap64 (a - b) = a - b := by
  unfold subOk at h
  simp only [Bool.and_eq_true] at h
  have := may_lo h.2
  unfold wrap64; omega
theorem wrap64_R (x : Int) : R64 (wrap64 x) := by unfold R64 wrap64; omega
end Go.Proofs.Ytecmoahadckomaa
