/- num.Sum, gantryref01.Sum: both compute sumTo. -/
import Derived.Test.YtioceechdombjaaZIntsToNumW
import Derived.Test.YtioceechdombjaaZWordsGraphAGraphD
namespace Go.Proofs.Ytioceechdombjaa
open Go.RowKit

/-- After k numbers: the sum so far, or none where it was refused. -/
def sumTo (f : Nat → Int) (m : Int) : Nat → Option Int
  | 0 => some 0
  | k + 1 => match sumTo f m k with
    | none => none
    | some s => if (f k ≤ 4611686018427387904 ∧ -4611686018427387904 ≤ f k) ∧ (f k < m - s ∧ - f k < m - s) then some (s + (if 0 ≤ f k then f k else - f k) + 1) else none
def sumR (f : Nat → Int) (m : Int) (n : Nat) : Value :=
  match sumTo f m n with
  | none => .tuple #[.int .i64 0, .bool false]
  | some s => .tuple #[.int .i64 s, .bool true]
theorem sumTo_succ {f : Nat → Int} {m s : Int} {k : Nat} (h : sumTo f m k = some s) : sumTo f m (k + 1) =
    if (f k ≤ 4611686018427387904 ∧ -4611686018427387904 ≤ f k) ∧ (f k < m - s ∧ - f k < m - s) then some (s + (if 0 ≤ f k then f k else - f k) + 1) else none := by
  show (match sumTo f m k with | none => none | some s => _) = _
  rw [h]
theorem sumTo_none {f : Nat → Int} {m : Int} {k n : Nat} (h : sumTo f m k = none) (hk : k ≤ n) : sumTo f m n = none := by
  induction n with
  | zero => obtain rfl : k = 0 := by omega
            exact h
  | succ n ih =>
    by_cases e : k = n + 1
    · subst e; exact h
    · show (match sumTo f m n with | none => none | some s => _) = _
      rw [ih (by omega)]
theorem sumTo_bd {f : Nat → Int} {m : Int} (hm : 0 ≤ m) {k : Nat} : ∀ {s : Int}, sumTo f m k = some s → 0 ≤ s ∧ s ≤ m := by
  induction k with
  | zero => intro s h; injection h with h; omega
  | succ k ih =>
    intro s h
    cases hs : sumTo f m k with
    | none => rw [sumTo_none hs (by omega)] at h; cases h
    | some t =>
      rw [sumTo_succ hs] at h
      have := ih hs
      split at h
      · injection h with h; split at h <;> omega
      · cases h

theorem sum_pass {f : Nat → Int} {m s x : Int} {k : Nat} (h : sumTo f m k = some s) (hx : f k = x) (h0 : 0 ≤ x) (h1 : x ≤ 4611686018427387904) (h2 : x < m - s) : sumTo f m (k + 1) = some (s + (x + 1)) := by
  rw [sumTo_succ h, hx, if_pos (by omega), if_pos h0]; congr 1; omega
theorem sum_pass' {f : Nat → Int} {m s x : Int} {k : Nat} (h : sumTo f m k = some s) (hx : f k = x) (h0 : x < 0) (h1 : -4611686018427387904 ≤ x) (h2 : -x < m - s) : sumTo f m (k + 1) = some (s + (-x + 1)) := by
  rw [sumTo_succ h, hx, if_pos (by omega), if_neg (by omega)]; congr 1; omega
theorem sum_fail {f : Nat → Int} {m s x : Int} {k n : Nat} (h : sumTo f m k = some s) (hx : f k = x) (hk : k < n) (h0 : 4611686018427387904 < x ∨ x < -4611686018427387904 ∨ m - s ≤ x ∨ m - s ≤ -x) : sumR f m n = .tuple #[.int .i64 0, .bool false] := by
  have : sumTo f m (k + 1) = none := by rw [sumTo_succ h, hx, if_neg (by omega)]
  unfold sumR
  rw [sumTo_none this hk]
theorem sum_done {f : Nat → Int} {m s : Int} {k n : Nat} (h : sumTo f m k = some s) (hk : k = n) : sumR f m n = .tuple #[.int .i64 s, .bool true] := by
  subst hk; unfold sumR; rw [h]

set_option maxHeartbeats 400000 in
theorem Sum_any (v : Value) (n : Nat) (f : Nat → Int) (most : Int) (w : World) (hv : IntsAt w v n f) (hm0 : 1 ≤ most) (hm1 : most ≤ 4611686018427387904) :
    Calls Try.prog 33 #[v, .int .i64 most] w fun e w' => e = .returned (sumR f most n) ∧ w = w' := by
  obtain ⟨A, c, rfl, hn, hr, hc⟩ := hv
  have hc' := Lib.hid hc
  have hr' := Lib.hid hr
  clear hc hr
  go_enter Try.func33, Try.ntmps33
  go_wp2
  go_loop [4, 13] (fun s i => ∃ (k : Nat) (t : Int), k ≤ n ∧ i = .int .i64 k ∧ s = .int .i64 t ∧ Hid (sumTo f most k = some t)) (fun _ i => n - (intOf i).toNat)
  case atStart => exact ⟨0, 0, Nat.zero_le _, rfl, rfl, rfl⟩
  case round =>
    obtain ⟨k, t, hk, rfl, rfl, hs⟩ := hrel
    obtain ⟨ht0, ht1⟩ := sumTo_bd (by omega) hs.out
    by_cases hlt : k < n
    · obtain ⟨b, o, rfl, hbl, hcs⟩ := hc'.out (by omega)
      have c0 := hcs k hlt
      clear hcs
      obtain ⟨r0, r1⟩ := hr'.out k hlt
      generalize hx : f k = x at *
      have hx' := Lib.hid hx
      clear hx
      by_cases g0 : 0 ≤ x
      · by_cases g1 : x ≤ 4611686018427387904
        · by_cases g2 : x < most - t
          · go_wp2_with (go_at_call 59; refine (May_any _ _ (by omega) (by omega)).mono ?_; rintro e w' ⟨rfl, rfl⟩; rw [mayB_true (by omega) (by omega)])
            go_round
            case rel => exact ⟨k + 1, _, by omega, by go_num, rfl, sum_pass hs.out hx'.out g0 g1 g2⟩
            case measure => simp [intOf]; omega
          · go_wp2_with (go_at_call 59; refine (May_any _ _ (by omega) (by omega)).mono ?_; rintro e w' ⟨rfl, rfl⟩; rw [mayB_true (by omega) (by omega)])
            go_ret2
            exact ⟨by rw [sum_fail hs.out hx'.out hlt (by omega)]; rfl, rfl⟩
        · go_wp2_with (go_at_call 59; refine (May_any _ _ (by omega) (by omega)).mono ?_; rintro e w' ⟨rfl, rfl⟩; rw [mayB_false (by omega)])
          go_ret2
          exact ⟨by rw [sum_fail hs.out hx'.out hlt (by omega)]; rfl, rfl⟩
      · by_cases g1 : -4611686018427387904 ≤ x
        · by_cases g2 : -x < most - t
          · go_wp2_with (go_at_call 59; refine (May_any _ _ (by omega) (by omega)).mono ?_; rintro e w' ⟨rfl, rfl⟩; rw [mayB_true (by omega) (by omega)])
            go_round
            case rel => exact ⟨k + 1, _, by omega, by go_num, rfl, sum_pass' hs.out hx'.out (by omega) g1 g2⟩
            case measure => simp [intOf]; omega
          · go_wp2_with (go_at_call 59; refine (May_any _ _ (by omega) (by omega)).mono ?_; rintro e w' ⟨rfl, rfl⟩; rw [mayB_true (by omega) (by omega)])
            go_ret2
            exact ⟨by rw [sum_fail hs.out hx'.out hlt (by omega)]; rfl, rfl⟩
        · by_cases g2 : x = -9223372036854775808
          · have hw : wrap64 (-x) = x := by subst g2; unfold wrap64; omega
            have g3 : x < -4611686018427387904 := by omega
            clear g2
            go_wp2_with (go_at_call 59; refine (May_any _ _ (by omega) (by omega)).mono ?_; rintro e w' ⟨rfl, rfl⟩; rw [mayB_false (by omega)])
            go_ret2
            exact ⟨by rw [sum_fail hs.out hx'.out hlt (by omega)]; rfl, rfl⟩
          · go_wp2_with (go_at_call 59; refine (May_any _ _ (by omega) (by omega)).mono ?_; rintro e w' ⟨rfl, rfl⟩; rw [mayB_false (by omega)])
            go_ret2
            exact ⟨by rw [sum_fail hs.out hx'.out hlt (by omega)]; rfl, rfl⟩
    · go_wp2
      go_ret2
      exact ⟨by rw [sum_done hs.out (by omega)]; rfl, rfl⟩
end Go.Proofs.Ytioceechdombjaa

namespace Go.Proofs.Ytioceechdombjaa
open Go.RowKit

def edB (n : Int) (x : Ed) : Bool := decide (0 ≤ x.src ∧ x.src < n ∧ 0 ≤ x.dst ∧ x.dst < n)
def edsB (n : Int) (E : Nat → Ed) : Nat → Bool
  | 0 => true
  | k + 1 => edsB n E k && edB n (E k)
theorem edsB_iff (n : Int) (E : Nat → Ed) (m : Nat) : edsB n E m = true ↔ ∀ i, i < m → (0 ≤ (E i).src ∧ (E i).src < n ∧ 0 ≤ (E i).dst ∧ (E i).dst < n) := by
  induction m with
  | zero => simp [edsB]
  | succ m ih =>
    rw [edsB, Bool.and_eq_true, ih, edB, decide_eq_true_eq]
    constructor
    · rintro ⟨h1, h2⟩ i hi
      by_cases e : i = m
      · subst e; exact h2
      · exact h1 i (by omega)
    · exact fun h => ⟨fun i hi => h i (by omega), h m (by omega)⟩
/-- The answer of Check: 2, 10 or 0. -/
def checkR (n : Int) (m : Nat) (E : Nat → Ed) : Int :=
  if n < 0 ∨ 4096 < n then 2 else if edsB n E m = false then 2 else if sumTo (fun i => (E i).wt) 4611686018427387904 m = none then 10 else 0
theorem check_n {n : Int} {m : Nat} {E : Nat → Ed} (h : n < 0 ∨ 4096 < n) : checkR n m E = 2 := by unfold checkR; rw [if_pos h]
theorem check_ed {n : Int} {m k : Nat} {E : Nat → Ed} (h0 : 0 ≤ n) (h1 : n ≤ 4096) (hk : k < m) (h : edB n (E k) = false) : checkR n m E = 2 := by
  unfold checkR
  rw [if_neg (by omega), if_pos]
  cases he : edsB n E m with
  | false => rfl
  | true =>
    have := (edsB_iff n E m).1 he k hk
    unfold edB at h
    simp at h
    omega
theorem check_sum {n : Int} {m k : Nat} {E : Nat → Ed} (h0 : 0 ≤ n) (h1 : n ≤ 4096) (hk : k = m) (h : edsB n E k = true) : checkR n m E = if sumTo (fun i => (E i).wt) 4611686018427387904 m = none then 10 else 0 := by
  subst hk
  unfold checkR
  rw [if_neg (by omega), if_neg (by simp [h])]

theorem u64_ge {x n : Int} (h0 : 0 ≤ n) (h1 : n ≤ 4096) (r0 : -9223372036854775808 ≤ x) (r1 : x ≤ 9223372036854775807) (h : n ≤ IntKind.u64.wrap x) : x < 0 ∨ n ≤ x := by
  rw [IntKind.wrap_u64] at h; omega
theorem u64_lt {x n : Int} (h0 : 0 ≤ n) (h1 : n ≤ 4096) (r0 : -9223372036854775808 ≤ x) (r1 : x ≤ 9223372036854775807) (h : IntKind.u64.wrap x < n) : 0 ≤ x ∧ x < n := by
  rw [IntKind.wrap_u64] at h; omega
theorem edB_false {n : Int} {x : Ed} (h : (x.src < 0 ∨ n ≤ x.src) ∨ (x.dst < 0 ∨ n ≤ x.dst)) : edB n x = false := by
  unfold edB; simp; omega
theorem edsB_next {n : Int} {E : Nat → Ed} {k : Nat} (h : edsB n E k = true) (h0 : 0 ≤ (E k).src ∧ (E k).src < n) (h1 : 0 ≤ (E k).dst ∧ (E k).dst < n) : edsB n E (k + 1) = true := by
  rw [edsB, h, edB]; simp; omega

set_option maxHeartbeats 400000 in
theorem GCheck_any (n : Int) (v : Value) (m : Nat) (E : Nat → Ed) (w : World) (hv : EdsAt w v m E) (hm : m ≤ 1000000) (hn0 : -9223372036854775808 ≤ n) (hn1 : n ≤ 9223372036854775807) :
    Calls Try.prog 53 #[.int .i64 n, v] w fun e w' => e = .returned (.int .i64 (checkR n m E)) ∧ Below w.heap.size w w' := by
  have hv' := Lib.hid hv
  obtain ⟨A, c, rfl, hn, hr, hc⟩ := hv
  have hc' := Lib.hid hc
  have hr' := Lib.hid hr
  clear hc hr
  by_cases g0 : n < 0
  · go_enter Try.func53, Try.ntmps53
    go_wp2
    go_ret
    exact ⟨ret_int (check_n (by omega)).symm, Below.refl _ _⟩
  by_cases g1 : 4096 < n
  · go_enter Try.func53, Try.ntmps53
    go_wp2
    go_ret
    exact ⟨ret_int (check_n (by omega)).symm, Below.refl _ _⟩
  have g0' : 0 ≤ n := by omega
  have g1' : n ≤ 4096 := by omega
  clear g0 g1 hn0 hn1
  go_enter Try.func53, Try.ntmps53
  go_wp2
  go_loopw [17] (fun i wr => ∃ k : Nat, k ≤ m ∧ i = .int .i64 k ∧ Hid (edsB n E k = true) ∧ Below w.heap.size w wr) (fun i _ => m - (intOf i).toNat)
  case atStart => exact ⟨0, Nat.zero_le _, rfl, rfl, Below.refl _ _⟩
  case round =>
    obtain ⟨k, hk, rfl, hs, hb⟩ := hrel
    have hz := hb.size
    by_cases hlt : k < m
    · obtain ⟨b, o, rfl, hbl, hcs⟩ := hc'.out (by omega)
      obtain ⟨q0, q1, q2⟩ := hcs k hlt
      obtain ⟨⟨r0, r1⟩, ⟨r2, r3⟩, _⟩ := hr'.out k hlt
      clear hcs
      have c0 := (hb.cell (p := ⟨b, o + k * 3, none⟩) hbl).trans q0
      have c1 := (hb.cell (p := ⟨b, o + k * 3 + 1, none⟩) hbl).trans q1
      have c2 := (hb.cell (p := ⟨b, o + k * 3 + 2, none⟩) hbl).trans q2
      clear q0 q1 q2
      go_wp2
      · go_ret
        have h1 : IntKind.u64.wrap (E k).src < n := by assumption
        have h2 : n ≤ IntKind.u64.wrap (E k).src ∨ n ≤ IntKind.u64.wrap (E k).dst := by assumption
        exact ⟨ret_int (check_ed g0' g1' hlt (edB_false (.inr (u64_ge g0' g1' r2 r3 (by omega))))).symm, hb.alloc hz _⟩
      · have h2 : IntKind.u64.wrap (E k).src < n ∧ IntKind.u64.wrap (E k).dst < n := by assumption
        go_roundw
        case rel => exact ⟨k + 1, by omega, by go_num, edsB_next hs.out (u64_lt g0' g1' r0 r1 h2.1) (u64_lt g0' g1' r2 r3 h2.2), hb.alloc hz _⟩
        case measure => simp [intOf]; omega
      · go_ret
        have h1 : n ≤ IntKind.u64.wrap (E k).src := by assumption
        exact ⟨ret_int (check_ed g0' g1' hlt (edB_false (.inl (u64_ge g0' g1' r0 r1 h1)))).symm, hb.alloc hz _⟩
    · go_wp2_with fail
      refine (weights_any _ _ _ _ (hv'.out.below hb) hm).mono ?_
      rintro e w1 ⟨u, rfl, hu, hb1⟩
      go_wp2_with fail
      refine (Sum_any _ _ _ _ _ hu (by omega) (by omega)).mono ?_
      rintro e w2 ⟨rfl, rfl⟩
      have hR := check_sum g0' g1' (show k = m by omega) hs.out
      have hb2 := hb.trans (hb1.mono hz)
      cases hst : sumTo (fun i => (E i).wt) 4611686018427387904 m with
      | none =>
        rw [if_pos hst] at hR
        have hR' := Lib.hid hR
        rw [show sumR (fun i => (E i).wt) 4611686018427387904 m = .tuple #[.int .i64 0, .bool false] from by unfold sumR; rw [hst]]
        clear hR hst
        go_wp2
        go_ret
        exact ⟨ret_int hR'.out.symm, hb2⟩
      | some t =>
        rw [if_neg (by simp [hst])] at hR
        have hR' := Lib.hid hR
        rw [show sumR (fun i => (E i).wt) 4611686018427387904 m = .tuple #[.int .i64 t, .bool true] from by unfold sumR; rw [hst]]
        clear hR hst
        go_wp2
        go_ret
        exact ⟨ret_int hR'.out.symm, hb2⟩
end Go.Proofs.Ytioceechdombjaa
