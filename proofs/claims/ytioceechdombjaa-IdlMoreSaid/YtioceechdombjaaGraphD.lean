/- graph.less -/
import Derived.Test.YtioceechdombjaaWords
namespace Go.Proofs.Ytioceechdombjaa
open Go.RowKit
theorem less_lt (g i : Nat) (x y : Int) (w : World) (hc : w.cell? ⟨g, i, none⟩ = some (.int .i64 y)) (hf : w.frozen? ⟨g, i, none⟩ = false) (h : x < y) :
    Calls Try.prog 71 #[.pointer (some ⟨g, i, none⟩), .int .i64 x] w fun e w' => e = .returned (.bool true) ∧ w' = w.setCell ⟨g, i, none⟩ (.int .i64 x) := by
  go_enter Try.func71, Try.ntmps71
  go_wp2
  go_ret
  exact ⟨rfl, rfl⟩
theorem less_ge (g i : Nat) (x y : Int) (w : World) (hc : w.cell? ⟨g, i, none⟩ = some (.int .i64 y)) (h : y ≤ x) :
    Calls Try.prog 71 #[.pointer (some ⟨g, i, none⟩), .int .i64 x] w fun e w' => e = .returned (.bool false) ∧ w = w' := by
  go_enter Try.func71, Try.ntmps71
  go_wp2
  go_ret
  exact ⟨rfl, rfl⟩
end Go.Proofs.Ytioceechdombjaa
