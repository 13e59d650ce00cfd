/- gantrylaw10.EvalOrder. -/
import Derived.Test.YtdcohcjkimgccaaZWakes10
import Derived.Deep.CutRange
import Derived.BigGuardPart
namespace Go.Proofs.Ytdcohcjkimgccaa
open Go.RowKit
set_option maxRecDepth 100000

/-- Within 2^59 both ways. -/
def farB (x : Int) : Bool := decide (576460752303423488 < x) || decide (x < -576460752303423488)
theorem far_no {x : Int} (h : farB x = false) : -576460752303423488 ≤ x ∧ x ≤ 576460752303423488 := by
  unfold farB at h
  simp only [Bool.or_eq_false_iff, decide_eq_false_iff_not] at h
  omega
theorem atM_of {a b n : Int} (ha : mayB a = true) (hb : mayB b = true) (hn : mayB n = true) : atMB a b n = decide (a - b ≤ n) := by unfold atMB; rw [ha, hb, hn]; rfl
theorem may_in {x : Int} (h : -4611686018427387904 ≤ x ∧ x ≤ 4611686018427387904) : mayB x = true := by unfold mayB; simpa using h
set_option maxHeartbeats 4000000 in
theorem EvalOrder_any (a b c n m : Int) (w : World) (ha : R64 a) (hb : R64 b) (hc : R64 c) (hn : R64 n) (hm : R64 m) : Calls Try.prog 7 #[.int .i64 a, .int .i64 b, .int .i64 c, .int .i64 n, .int .i64 m] w fun e w' => e = .returned (.bool true) ∧ Below w.heap.size w w' := by
  go_enter Try.func7, Try.ntmps7
  by_cases hall : (-576460752303423488 ≤ a ∧ a ≤ 576460752303423488) ∧ (-576460752303423488 ≤ b ∧ b ≤ 576460752303423488) ∧ (-576460752303423488 ≤ c ∧ c ≤ 576460752303423488) ∧ (-576460752303423488 ≤ n ∧ n ≤ 576460752303423488) ∧ (-576460752303423488 ≤ m ∧ m ≤ 576460752303423488)
  · obtain ⟨⟨a0, a1⟩, ⟨b0, b1⟩, ⟨c0, c1⟩, ⟨n0, n1⟩, ⟨m0, m1⟩⟩ := hall
    have t1 : decide (576460752303423488 < a) = false := decide_eq_false (by omega)
    have t2 : decide (a < -576460752303423488) = false := decide_eq_false (by omega)
    have t3 : decide (576460752303423488 < b) = false := decide_eq_false (by omega)
    have t4 : decide (b < -576460752303423488) = false := decide_eq_false (by omega)
    have t5 : decide (576460752303423488 < c) = false := decide_eq_false (by omega)
    have t6 : decide (c < -576460752303423488) = false := decide_eq_false (by omega)
    have t7 : decide (576460752303423488 < n) = false := decide_eq_false (by omega)
    have t8 : decide (n < -576460752303423488) = false := decide_eq_false (by omega)
    have t9 : decide (576460752303423488 < m) = false := decide_eq_false (by omega)
    have t10 : decide (m < -576460752303423488) = false := decide_eq_false (by omega)
    have e1 : atMB a b n = decide (a - b ≤ n) := atM_of (may_in (by omega)) (may_in (by omega)) (may_in (by omega))
    have e2 : atMB b a (-n - 1) = decide (b - a ≤ -n - 1) := atM_of (may_in (by omega)) (may_in (by omega)) (may_in (by omega))
    have e3 : atMB b c m = decide (b - c ≤ m) := atM_of (may_in (by omega)) (may_in (by omega)) (may_in (by omega))
    have e4 : atMB a c (n + m) = decide (a - c ≤ n + m) := atM_of (may_in (by omega)) (may_in (by omega)) (may_in (by omega))
    have h1 := Lib.hid fun X : World => AtMost_any a b n X ha hb hn
    have h2 := Lib.hid fun X : World => AtMost_any b a (-n - 1) X hb ha ⟨by omega, by omega⟩
    have h3 := Lib.hid fun X : World => AtMost_any b c m X hb hc hm
    have h4 := Lib.hid fun X : World => AtMost_any a c (n + m) X ha hc ⟨by omega, by omega⟩
    rw [e1] at h1
    rw [e2] at h2
    rw [e3] at h3
    rw [e4] at h4
    have w1 : wrap64 (a - b) = a - b := by unfold wrap64; omega
    have w2 : wrap64 (-n - 1) = -n - 1 := by unfold wrap64; omega
    have w3 : wrap64 (n + m) = n + m := by unfold wrap64; omega
    have w4 : wrap64 (-n) = -n := by unfold wrap64; omega
    have hne : Hid (decide (b - a ≤ -n - 1) = !decide (a - b ≤ n)) := by
      unfold Hid
      rw [Bool.eq_iff_iff]; simp; omega
    rw [hne.out] at h2
    have htr : Hid ((decide (a - b ≤ n) && decide (b - c ≤ m) && !decide (a - c ≤ n + m)) = false) := by
      unfold Hid
      by_cases g1 : a - b ≤ n
      · by_cases g2 : b - c ≤ m
        · rw [decide_eq_true (show a - c ≤ n + m by omega)]; simp
        · rw [decide_eq_false g2]; simp
      · rw [decide_eq_false g1]; simp
    clear e1 e2 e3 e4 hne ha hb hc hn hm
    generalize hq1 : decide (a - b ≤ n) = q1 at *
    generalize hq2 : decide (b - c ≤ m) = q2 at *
    generalize hq3 : decide (a - c ≤ n + m) = q3 at *
    have hnn : ∀ q : Bool, (q != q) = false := by intro q; cases q <;> rfl
    cases q1
    · go_wp2_with fail
      refine (h1.out _).mono ?_
      rintro e w5 ⟨rfl, rfl⟩
      go_wp2_with fail
      refine (h1.out _).mono ?_
      rintro e w5 ⟨rfl, rfl⟩
      go_wp2_with fail
      refine (h2.out _).mono ?_
      rintro e w5 ⟨rfl, rfl⟩
      go_wp2_with fail
      refine (h1.out _).mono ?_
      rintro e w5 ⟨rfl, rfl⟩
      go_wp2_with fail
      refine (wakes10_any _).mono ?_
      rintro e w6 ⟨rfl, hb⟩
      go_wp2_with fail
      go_ret
      exact ⟨rfl, hb⟩
    · cases q2
      · go_wp2_with fail
        refine (h1.out _).mono ?_
        rintro e w5 ⟨rfl, rfl⟩
        go_wp2_with fail
        refine (h1.out _).mono ?_
        rintro e w5 ⟨rfl, rfl⟩
        go_wp2_with fail
        refine (h2.out _).mono ?_
        rintro e w5 ⟨rfl, rfl⟩
        go_wp2_with fail
        refine (h1.out _).mono ?_
        rintro e w5 ⟨rfl, rfl⟩
        go_wp2_with fail
        refine (h3.out _).mono ?_
        rintro e w5 ⟨rfl, rfl⟩
        go_wp2_with fail
        refine (wakes10_any _).mono ?_
        rintro e w6 ⟨rfl, hb⟩
        go_wp2_with fail
        go_ret
        exact ⟨rfl, hb⟩
      · cases q3
        · exact absurd htr.out (by decide)
        go_wp2_with fail
        refine (h1.out _).mono ?_
        rintro e w5 ⟨rfl, rfl⟩
        go_wp2_with fail
        refine (h1.out _).mono ?_
        rintro e w5 ⟨rfl, rfl⟩
        go_wp2_with fail
        refine (h2.out _).mono ?_
        rintro e w5 ⟨rfl, rfl⟩
        go_wp2_with fail
        refine (h1.out _).mono ?_
        rintro e w5 ⟨rfl, rfl⟩
        go_wp2_with fail
        refine (h3.out _).mono ?_
        rintro e w5 ⟨rfl, rfl⟩
        go_wp2_with fail
        refine (h4.out _).mono ?_
        rintro e w5 ⟨rfl, rfl⟩
        go_wp2_with fail
        refine (wakes10_any _).mono ?_
        rintro e w6 ⟨rfl, hb⟩
        go_wp2_with fail
        go_ret
        exact ⟨rfl, hb⟩
  · have hd : (decide (576460752303423488 < a) = true) ∨ (decide (576460752303423488 < a) = false ∧ decide (a < -576460752303423488) = true) ∨ (decide (576460752303423488 < a) = false ∧ decide (a < -576460752303423488) = false ∧ decide (576460752303423488 < b) = true) ∨ (decide (576460752303423488 < a) = false ∧ decide (a < -576460752303423488) = false ∧ decide (576460752303423488 < b) = false ∧ decide (b < -576460752303423488) = true) ∨ (decide (576460752303423488 < a) = false ∧ decide (a < -576460752303423488) = false ∧ decide (576460752303423488 < b) = false ∧ decide (b < -576460752303423488) = false ∧ decide (576460752303423488 < c) = true) ∨ (decide (576460752303423488 < a) = false ∧ decide (a < -576460752303423488) = false ∧ decide (576460752303423488 < b) = false ∧ decide (b < -576460752303423488) = false ∧ decide (576460752303423488 < c) = false ∧ decide (c < -576460752303423488) = true) ∨ (decide (576460752303423488 < a) = false ∧ decide (a < -576460752303423488) = false ∧ decide (576460752303423488 < b) = false ∧ decide (b < -576460752303423488) = false ∧ decide (576460752303423488 < c) = false ∧ decide (c < -576460752303423488) = false ∧ decide (576460752303423488 < n) = true) ∨ (decide (576460752303423488 < a) = false ∧ decide (a < -576460752303423488) = false ∧ decide (576460752303423488 < b) = false ∧ decide (b < -576460752303423488) = false ∧ decide (576460752303423488 < c) = false ∧ decide (c < -576460752303423488) = false ∧ decide (576460752303423488 < n) = false ∧ decide (n < -576460752303423488) = true) ∨ (decide (576460752303423488 < a) = false ∧ decide (a < -576460752303423488) = false ∧ decide (576460752303423488 < b) = false ∧ decide (b < -576460752303423488) = false ∧ decide (576460752303423488 < c) = false ∧ decide (c < -576460752303423488) = false ∧ decide (576460752303423488 < n) = false ∧ decide (n < -576460752303423488) = false ∧ decide (576460752303423488 < m) = true) ∨ (decide (576460752303423488 < a) = false ∧ decide (a < -576460752303423488) = false ∧ decide (576460752303423488 < b) = false ∧ decide (b < -576460752303423488) = false ∧ decide (576460752303423488 < c) = false ∧ decide (c < -576460752303423488) = false ∧ decide (576460752303423488 < n) = false ∧ decide (n < -576460752303423488) = false ∧ decide (576460752303423488 < m) = false ∧ decide (m < -576460752303423488) = true) := by
      simp only [decide_eq_true_eq, decide_eq_false_iff_not]
      omega
    clear hall ha hb hc hn hm
    rcases hd with _ | ⟨_, _⟩ | ⟨_, _, _⟩ | ⟨_, _, _, _⟩ | ⟨_, _, _, _, _⟩ | ⟨_, _, _, _, _, _⟩ | ⟨_, _, _, _, _, _, _⟩ | ⟨_, _, _, _, _, _, _, _⟩ | ⟨_, _, _, _, _, _, _, _, _⟩ | ⟨_, _, _, _, _, _, _, _, _, _⟩
    all_goals
      go_wp2_with fail
      refine (wakes10_any _).mono ?_
      rintro e w6 ⟨rfl, hb⟩
      go_wp2_with fail
      go_ret
      exact ⟨rfl, hb⟩
end Go.Proofs.Ytdcohcjkimgccaa
