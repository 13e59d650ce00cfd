/- The law GraphTells: the walk. -/
import Derived.Test.YtoifcpdkophobaaGraphH
namespace Go.Proofs.Ytoifcpdkophobaa
open Go.RowKit

set_option maxHeartbeats 400000 in
theorem Tells_any (n : Int) (v : Value) (m : Nat) (E : Nat → Ed) (w : World) (hv : EdsAt w v m E) (hn0 : -9223372036854775808 ≤ n) (hn1 : n ≤ 9223372036854775807) :
    Calls Try.prog 3 #[.int .i64 n, v] w fun e w' => e = .returned (.bool true) ∧ Below w.heap.size w w' := by
  have hv' := Lib.hid hv
  obtain ⟨A, c, rfl, hm, _⟩ := hv
  by_cases h200 : 200 < m
  · by_cases h4 : n ≤ 4096
    · go_enter Try.func3, Try.ntmps3
      go_wp2_with fail
      refine (Great_any n A m c w hm).mono ?_
      rintro e w1 ⟨rfl, rfl⟩
      rw [show (decide (60 < n) || decide (200 < m)) = true by simp [h200]]
      go_wp2_with fail
      refine (wakes24_any w).mono ?_
      rintro e w1 ⟨rfl, hb⟩
      go_wp2
      go_ret
      exact ⟨rfl, hb⟩
    · go_enter Try.func3, Try.ntmps3
      go_wp2_with fail
      refine (Great_any n A m c w hm).mono ?_
      rintro e w1 ⟨rfl, rfl⟩
      rw [show (decide (60 < n) || decide (200 < m)) = true by simp [h200]]
      go_wp2_with fail
      refine (wakes24_any w).mono ?_
      rintro e w1 ⟨rfl, hb⟩
      go_wp2
      go_ret
      exact ⟨rfl, hb⟩
  · by_cases h6 : 60 < n ∧ n ≤ 4096
    · obtain ⟨h6, h7⟩ := h6
      go_enter Try.func3, Try.ntmps3
      go_wp2_with fail
      refine (Great_any n A m c w hm).mono ?_
      rintro e w1 ⟨rfl, rfl⟩
      rw [show (decide (60 < n) || decide (200 < m)) = true by simp [h6]]
      go_wp2_with fail
      refine (wakes24_any w).mono ?_
      rintro e w1 ⟨rfl, hb⟩
      go_wp2
      go_ret
      exact ⟨rfl, hb⟩
    · have hp : ∀ (w1 : World), EdsAt w1 (.slice A m c) m E → Calls Try.prog 11 #[.int .i64 n, .slice A m c] w1 fun e w' => ∃ u, e = .returned (.tuple #[u, .bool (badR n m E), .int .i64 (checkR n m E)]) ∧ IntsAt w' u (lenR n m E) (potR n m E) ∧ Below w1.heap.size w1 w' :=
        fun w1 h => Pots_any n _ m E w1 h (by omega) hn0 hn1
      have hq : ∀ (w1 : World), EdsAt w1 (.slice A m c) m E → Calls Try.prog 12 #[.int .i64 n, .slice A m c] w1 fun e w' => ∃ u, e = .returned (.tuple #[u, .bool (badR n m E), .int .i64 (checkR n m E)]) ∧ IntsAt w' u (lenR n m E) (potR n m E) ∧ Below w1.heap.size w1 w' :=
        fun w1 h => RPots_any n _ m E w1 h (by omega) hn0 hn1
      have hg : ∃ g, (decide (60 < n) || decide (200 < m)) = g ∧ (g = true → 4096 < n) := ⟨_, rfl, fun h => by simp at h; omega⟩
      obtain ⟨g, hg, hg1⟩ := hg
      have hg' := Lib.hid hg
      have hp' := Lib.hid hp
      have hq' := Lib.hid hq
      clear hg hp hq
      have hpost : Calls Try.prog 3 #[.int .i64 n, .slice A m c] w fun e w' => e = .returned (.bool true) ∧ Below w.heap.size w w' := by
        cases g with
        | true =>
          have h4 := hg1 rfl
          clear hg1
          go_enter Try.func3, Try.ntmps3
          go_wp2_with fail
          refine (Great_any n A m c w hm).mono ?_
          rintro e w1 ⟨rfl, rfl⟩
          rw [hg'.out]
          go_wp2_with fail
          refine (hp'.out _ hv'.out).mono ?_
          rintro e w1 ⟨u1, rfl, hu1, hb1⟩
          go_wp2_with fail
          refine (hq'.out _ (hv'.out.below hb1)).mono ?_
          rintro e w2 ⟨u2, rfl, hu2, hb2⟩
          have hb12 := hb1.trans (hb2.mono hb1.size)
          go_wp2_with fail
          refine (same_eq _ _ _ _ _ (hu1.below hb2) hu2).mono ?_
          rintro e w3 ⟨rfl, d, rfl⟩
          have hb13 := below_drewN hb12 d
          go_wp2_with fail
          refine (GCheck_any n _ m E _ (hv'.out.below hb13) (by omega) hn0 hn1).mono ?_
          rintro e w4 ⟨rfl, hb4⟩
          have hb14 := hb13.trans (hb4.mono hb13.size)
          go_wp2_with fail
          refine (RCheck_any n _ m E _ (hv'.out.below hb14) (by omega) hn0 hn1).mono ?_
          rintro e w5 ⟨rfl, hb5⟩
          have hb15 := hb14.trans (hb5.mono hb14.size)
          go_wp2_with fail
          refine (wakes24_any w5).mono ?_
          rintro e w6 ⟨rfl, hb6⟩
          go_wp2
          go_ret
          exact ⟨rfl, hb15.trans (hb6.mono hb15.size)⟩
        | false =>
          clear hg1
          go_enter Try.func3, Try.ntmps3
          go_wp2_with fail
          refine (Great_any n A m c w hm).mono ?_
          rintro e w1 ⟨rfl, rfl⟩
          rw [hg'.out]
          go_wp2_with fail
          refine (hp'.out _ hv'.out).mono ?_
          rintro e w1 ⟨u1, rfl, hu1, hb1⟩
          go_wp2_with fail
          refine (hq'.out _ (hv'.out.below hb1)).mono ?_
          rintro e w2 ⟨u2, rfl, hu2, hb2⟩
          have hb12 := hb1.trans (hb2.mono hb1.size)
          go_wp2_with fail
          refine (same_eq _ _ _ _ _ (hu1.below hb2) hu2).mono ?_
          rintro e w3 ⟨rfl, d, rfl⟩
          have hb13 := below_drewN hb12 d
          go_wp2_with fail
          refine (GCheck_any n _ m E _ (hv'.out.below hb13) (by omega) hn0 hn1).mono ?_
          rintro e w4 ⟨rfl, hb4⟩
          have hb14 := hb13.trans (hb4.mono hb13.size)
          go_wp2_with fail
          refine (RCheck_any n _ m E _ (hv'.out.below hb14) (by omega) hn0 hn1).mono ?_
          rintro e w5 ⟨rfl, hb5⟩
          have hb15 := hb14.trans (hb5.mono hb14.size)
          go_wp2_with fail
          refine (wakes24_any w5).mono ?_
          rintro e w6 ⟨rfl, hb6⟩
          go_wp2
          go_ret
          exact ⟨rfl, hb15.trans (hb6.mono hb15.size)⟩
      exact hpost
end Go.Proofs.Ytoifcpdkophobaa
