/- The law GraphWalks: the walk. -/
import Derived.Test.YtoifcpdkophobaaClosedG
import Derived.Test.YtoifcpdkophobaaHoldsG
namespace Go.Proofs.Ytoifcpdkophobaa
open Go.RowKit

theorem closed_one {k m : Nat} {f : Nat → Int} {E : Nat → Ed} {u v : Value} (hu : ClosedPost k m f E u) (hv : ClosedPost k m f E v) : ∃ s b, u = .tuple #[.int .i64 s, .bool b] ∧ v = .tuple #[.int .i64 s, .bool b] := by
  rcases hu with ⟨h1, rfl⟩ | ⟨h1, rfl⟩
  · rcases hv with ⟨h2, rfl⟩ | ⟨h2, rfl⟩
    · exact ⟨_, _, rfl, rfl⟩
    · exact absurd h1 h2
  · rcases hv with ⟨h2, rfl⟩ | ⟨h2, rfl⟩
    · exact absurd h2 h1
    · exact ⟨_, _, rfl, rfl⟩

set_option maxHeartbeats 400000 in
theorem Walks_any (v u x : Value) (m k q : Nat) (E : Nat → Ed) (f g : Nat → Int) (w : World) (hv : EdsAt w v m E) (hu : IntsAt w u k f) (hx : IntsAt w x q g) :
    Calls Try.prog 8 #[v, u, x] w fun e w' => e = .returned (.bool true) ∧ Below w.heap.size w w' := by
  have hv' := Lib.hid hv
  have hu' := Lib.hid hu
  have hx' := Lib.hid hx
  obtain ⟨A, c, rfl, hm, _⟩ := hv
  obtain ⟨A1, c1, rfl, hk, _⟩ := hu
  obtain ⟨A2, c2, rfl, hq, _⟩ := hx
  by_cases hg : 200 < m ∨ 200 < k ∨ 100 < q
  · go_enter Try.func8, Try.ntmps8
    go_wp2_with fail
    all_goals first
      | omega
      | (refine (wakes24_any w).mono ?_
         rintro e w1 ⟨rfl, hb⟩
         go_wp2
         go_ret
         exact ⟨rfl, hb⟩)
  · have g1 : m ≤ 200 := by omega
    have g2 : k ≤ 200 := by omega
    have g3 : q ≤ 100 := by omega
    clear hg
    go_enter Try.func8, Try.ntmps8
    go_wp2_with fail
    refine (Closed_any _ _ m k E f _ hv'.out hu'.out (by omega)).mono ?_
    rintro e w1 ⟨r1, rfl, hr1, hb1⟩
    have hr1' := Lib.hid hr1
    obtain ⟨s, b, rfl, -⟩ := closed_one hr1 hr1
    clear hr1
    go_wp2_with fail
    refine (RClosed_any _ _ m k E f _ (hv'.out.below hb1) (hu'.out.below hb1) (by omega)).mono ?_
    rintro e w2 ⟨r2, rfl, hr2, hb2⟩
    obtain ⟨s', b', e1, rfl⟩ := closed_one hr1'.out hr2
    injection e1 with e1
    simp only [Array.mk.injEq, List.cons.injEq, Value.int.injEq, Value.bool.injEq, true_and, and_true] at e1
    obtain ⟨rfl, rfl⟩ := e1
    clear hr2 hr1'
    have hb12 := hb1.trans (hb2.mono hb1.size)
    have hs : (s == s) = true := by simp
    have hbb : (b == b) = true := by simp
    go_wp2_with fail
    refine (Holds_any _ _ m q E g _ (hv'.out.below hb12) (hx'.out.below hb12) (by omega)).mono ?_
    rintro e w3 ⟨rfl, hb3⟩
    have hb13 := hb12.trans (hb3.mono hb12.size)
    go_wp2_with fail
    refine (RHolds_any _ _ m q E g _ (hv'.out.below hb13) (hx'.out.below hb13)).mono ?_
    rintro e w4 ⟨rfl, hb4⟩
    have hb14 := hb13.trans (hb4.mono hb13.size)
    generalize holdsB q g m E = z
    have hz : (z == z) = true := by simp
    go_wp2_with fail
    refine (wakes24_any w4).mono ?_
    rintro e w5 ⟨rfl, hb5⟩
    go_wp2
    go_ret
    exact ⟨rfl, hb14.trans (hb5.mono hb14.size)⟩
end Go.Proofs.Ytoifcpdkophobaa
