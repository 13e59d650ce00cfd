/- num.Sum, gantryref01.Sum: both compute sumTo. -/
import Derived.Test.YtioceechdombjaaNum
namespace Go.Proofs.Ytioceechdombjaa
open Go.RowKit

/-- After k numbers: the sum so far, or none where it was refused. -/
def sumTo (f : Nat → Int) (m : Int) : Nat → Option Int
  | 0 => some 0
  | k + 1 => match sumTo f m k with
    | none => none
    | some s => if (f k ≤ 4611686018427387904 ∧ -4611686018427387904 ≤ f k) ∧ (f k < m - s ∧ - f k < m - s) then some (s + (if 0 ≤ f k then f k else - f k) + 1) else none
def sumR (f : Nat → Int) (m : Int) (n : Nat) : Value :=
  match sumTo f m n with
  | none => .tuple #[.int .i64 0, .bool false]
  | some s => .tuple #[.int .i64 s, .bool true]
theorem sumTo_succ {f : Nat → Int} {m s : Int} {k : Nat} (h : sumTo f m k = some s) : sumTo f m (k + 1) =
    if (f k ≤ 4611686018427387904 ∧ -4611686018427387904 ≤ f k) ∧ (f k < m - s ∧ - f k < m - s) then some (s + (if 0 ≤ f k then f k else - f k) + 1) else none := by
  show (match sumTo f m k with | none => none | some s => _) = _
  rw [h]
theorem sumTo_none {f : Nat → Int} {m : Int} {k n : Nat} (h : sumTo f m k = none) (hk : k ≤ n) : sumTo f m n = none := by
  induction n with
  | zero => obtain rfl : k = 0 := by omega
            exact h
  | succ n ih =>
    by_cases e : k = n + 1
    · subst e; exact h
    · show (match sumTo f m n with | none => none | some s => _) = _
      rw [ih (by omega)]
theorem sumTo_bd {f : Nat → Int} {m : Int} (hm : 0 ≤ m) {k : Nat} : ∀ {s : Int}, sumTo f m k = some s → 0 ≤ s ∧ s ≤ m := by
  induction k with
  | zero => intro s h; injection h with h; omega
  | succ k ih =>
    intro s h
    cases hs : sumTo f m k with
    | none => rw [sumTo_none hs (by omega)] at h; cases h
    | some t =>
      rw [sumTo_succ hs] at h
      have := ih hs
      split at h
      · injection h with h; split at h <;> omega
      · cases h

theorem sum_pass {f : Nat → Int} {m s x : Int} {k : Nat} (h : sumTo f m k = some s) (hx : f k = x) (h0 : 0 ≤ x) (h1 : x ≤ 4611686018427387904) (h2 : x < m - s) : sumTo f m (k + 1) = some (s + (x + 1)) := by
  rw [sumTo_succ h, hx, if_pos (by omega), if_pos h0]; congr 1; omega
theorem sum_pass' {f : Nat → Int} {m s x : Int} {k : Nat} (h : sumTo f m k = some s) (hx : f k = x) (h0 : x < 0) (h1 : -4611686018427387904 ≤ x) (h2 : -x < m - s) : sumTo f m (k + 1) = some (s + (-x + 1)) := by
  rw [sumTo_succ h, hx, if_pos (by omega), if_neg (by omega)]; congr 1; omega
theorem sum_fail {f : Nat → Int} {m s x : Int} {k n : Nat} (h : sumTo f m k = some s) (hx : f k = x) (hk : k < n) (h0 : 4611686018427387904 < x ∨ x < -4611686018427387904 ∨ m - s ≤ x ∨ m - s ≤ -x) : sumR f m n = .tuple #[.int .i64 0, .bool false] := by
  have : sumTo f m (k + 1) = none := by rw [sumTo_succ h, hx, if_neg (by omega)]
  unfold sumR
  rw [sumTo_none this hk]
theorem sum_done {f : Nat → Int} {m s : Int} {k n : Nat} (h : sumTo f m k = some s) (hk : k = n) : sumR f m n = .tuple #[.int .i64 s, .bool true] := by
  subst hk; unfold sumR; rw [h]

set_option maxHeartbeats 400000 in
theorem Sum_any (v : Value) (n : Nat) (f : Nat → Int) (most : Int) (w : World) (hv : IntsAt w v n f) (hm0 : 1 ≤ most) (hm1 : most ≤ 4611686018427387904) :
    Calls Try.prog 33 #[v, .int .i64 most] w fun e w' => e = .returned (sumR f most n) ∧ w = w' := by
  obtain ⟨A, c, rfl, hn, hr, hc⟩ := hv
  have hc' := Lib.hid hc
  have hr' := Lib.hid hr
  clear hc hr
  go_enter Try.func33, Try.ntmps33
  go_wp2
  go_loop [4, 13] (fun s i => ∃ (k : Nat) (t : Int), k ≤ n ∧ i = .int .i64 k ∧ s = .int .i64 t ∧ Hid (sumTo f most k = some t)) (fun _ i => n - (intOf i).toNat)
  case atStart => exact ⟨0, 0, Nat.zero_le _, rfl, rfl, rfl⟩
  case round =>
    obtain ⟨k, t, hk, rfl, rfl, hs⟩ := hrel
    obtain ⟨ht0, ht1⟩ := sumTo_bd (by omega) hs.out
    by_cases hlt : k < n
    · obtain ⟨b, o, rfl, hbl, hcs⟩ := hc'.out (by omega)
      have c0 := hcs k hlt
      clear hcs
      obtain ⟨r0, r1⟩ := hr'.out k hlt
      generalize hx : f k = x at *
      have hx' := Lib.hid hx
      clear hx
      by_cases g0 : 0 ≤ x
      · by_cases g1 : x ≤ 4611686018427387904
        · by_cases g2 : x < most - t
          · go_wp2_with (go_at_call 59; refine (May_any _ _ (by omega) (by omega)).mono ?_; rintro e w' ⟨rfl, rfl⟩; rw [mayB_true (by omega) (by omega)])
            go_round
            case rel => exact ⟨k + 1, _, by omega, by go_num, rfl, sum_pass hs.out hx'.out g0 g1 g2⟩
            case measure => simp [intOf]; omega
          · go_wp2_with (go_at_call 59; refine (May_any _ _ (by omega) (by omega)).mono ?_; rintro e w' ⟨rfl, rfl⟩; rw [mayB_true (by omega) (by omega)])
            go_ret2
            exact ⟨by rw [sum_fail hs.out hx'.out hlt (by omega)]; rfl, rfl⟩
        · go_wp2_with (go_at_call 59; refine (May_any _ _ (by omega) (by omega)).mono ?_; rintro e w' ⟨rfl, rfl⟩; rw [mayB_false (by omega)])
          go_ret2
          exact ⟨by rw [sum_fail hs.out hx'.out hlt (by omega)]; rfl, rfl⟩
      · by_cases g1 : -4611686018427387904 ≤ x
        · by_cases g2 : -x < most - t
          · go_wp2_with (go_at_call 59; refine (May_any _ _ (by omega) (by omega)).mono ?_; rintro e w' ⟨rfl, rfl⟩; rw [mayB_true (by omega) (by omega)])
            go_round
            case rel => exact ⟨k + 1, _, by omega, by go_num, rfl, sum_pass' hs.out hx'.out (by omega) g1 g2⟩
            case measure => simp [intOf]; omega
          · go_wp2_with (go_at_call 59; refine (May_any _ _ (by omega) (by omega)).mono ?_; rintro e w' ⟨rfl, rfl⟩; rw [mayB_true (by omega) (by omega)])
            go_ret2
            exact ⟨by rw [sum_fail hs.out hx'.out hlt (by omega)]; rfl, rfl⟩
        · by_cases g2 : x = -9223372036854775808
          · have hw : wrap64 (-x) = x := by subst g2; unfold wrap64; omega
            have g3 : x < -4611686018427387904 := by omega
            clear g2
            go_wp2_with (go_at_call 59; refine (May_any _ _ (by omega) (by omega)).mono ?_; rintro e w' ⟨rfl, rfl⟩; rw [mayB_false (by omega)])
            go_ret2
            exact ⟨by rw [sum_fail hs.out hx'.out hlt (by omega)]; rfl, rfl⟩
          · go_wp2_with (go_at_call 59; refine (May_any _ _ (by omega) (by omega)).mono ?_; rintro e w' ⟨rfl, rfl⟩; rw [mayB_false (by omega)])
            go_ret2
            exact ⟨by rw [sum_fail hs.out hx'.out hlt (by omega)]; rfl, rfl⟩
    · go_wp2
      go_ret2
      exact ⟨by rw [sum_done hs.out (by omega)]; rfl, rfl⟩
end Go.Proofs.Ytioceechdombjaa
