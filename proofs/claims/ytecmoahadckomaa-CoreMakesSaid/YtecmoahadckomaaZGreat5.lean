/- gantryref05.Great. -/
import Derived.Test.YtecmoahadckomaaZTermCTermDaRCheck
namespace Go.Proofs.Ytecmoahadckomaa
open Go.RowKit

theorem Great5_any (v : Value) (n : Nat) (N : Nat → Nd) (w : World) (hv : NdsAt w v n N) :
    Calls Try.prog 6 #[.agg #[v]] w fun e w' => e = .returned (.bool (decide (300 < n))) ∧ Below w.heap.size w w' := by
  obtain ⟨A, c, rfl, _, _, _⟩ := hv
  go_enter Try.func6, Try.ntmps6
  go_wp2
  go_ret
  exact ⟨ret_bool (by rw [Bool.eq_iff_iff]; simp; omega), (Below.refl _ _).alloc (Nat.le_refl _) _⟩
end Go.Proofs.Ytecmoahadckomaa
