/- gantrylaw10.EvalAtMost. -/
import Derived.Test.YtdcohcjkimgccaaZEvAt
import Derived.Test.YtdcohcjkimgccaaZWakes10
namespace Go.Proofs.Ytdcohcjkimgccaa
open Go.RowKit
set_option maxRecDepth 100000

set_option maxHeartbeats 1000000 in
theorem EvalAtMost_any (a b n : Int) (w : World) (ha : R64 a) (hb : R64 b) (hn : R64 n) : Calls Try.prog 6 #[.int .i64 a, .int .i64 b, .int .i64 n] w fun e w' => e = .returned (.bool true) ∧ Below w.heap.size w w' := by
  have h1 := Lib.hid (AtMost_any a b n w ha hb hn)
  have h2 := Lib.hid (RAtMost_any a b n w)
  go_enter Try.func6, Try.ntmps6
  generalize atMB a b n = q at *
  go_wp2_with fail
  refine h1.out.mono ?_
  rintro e w1 ⟨rfl, rfl⟩
  go_wp2_with fail
  refine h2.out.mono ?_
  rintro e w1 ⟨rfl, rfl⟩
  have hq : (q == q) = true := by simp
  go_wp2_with fail
  refine (wakes10_any _).mono ?_
  rintro e w2 ⟨rfl, hb2⟩
  go_wp2_with fail
  go_ret
  exact ⟨rfl, hb2⟩
end Go.Proofs.Ytdcohcjkimgccaa
