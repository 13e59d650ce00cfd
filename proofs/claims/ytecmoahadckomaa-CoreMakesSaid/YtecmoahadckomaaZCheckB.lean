/- Whether a table may be, as a Bool. -/
import Derived.Test.YtecmoahadckomaaZTermBTermLGathL
namespace Go.Proofs.Ytecmoahadckomaa
open Go.RowKit

theorem checkB_yes {n : Nat} {N : Nat → Nd} (h : CheckP n N) : checkB n N = true := by unfold checkB; exact @decide_eq_true _ (Classical.propDecidable _) h
theorem checkB_no {n : Nat} {N : Nat → Nd} (h : ¬ CheckP n N) : checkB n N = false := by unfold checkB; exact @decide_eq_false _ (Classical.propDecidable _) h
theorem checkB_iff {n : Nat} {N : Nat → Nd} : checkB n N = true ↔ CheckP n N :=
  ⟨fun h => (by
    rcases Classical.em (CheckP n N) with h1 | h1
    · exact h1
    · rw [checkB_no h1] at h; cases h), checkB_yes⟩
end Go.Proofs.Ytecmoahadckomaa
