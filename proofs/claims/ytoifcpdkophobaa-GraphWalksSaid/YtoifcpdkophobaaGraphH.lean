/- The law's small functions: Great, same, wakes; gantryref24.Pots at any number. -/
import Derived.Test.YtoifcpdkophobaaGraphG
namespace Go.Proofs.Ytoifcpdkophobaa
open Go.RowKit

set_option maxHeartbeats 400000 in
theorem RPots_any (n : Int) (v : Value) (m : Nat) (E : Nat → Ed) (w : World) (hv : EdsAt w v m E) (hm : m ≤ 1000000) (hn0 : -9223372036854775808 ≤ n) (hn1 : n ≤ 9223372036854775807) :
    Calls Try.prog 12 #[.int .i64 n, v] w fun e w' => ∃ u, e = .returned (.tuple #[u, .bool (badR n m E), .int .i64 (checkR n m E)]) ∧ IntsAt w' u (lenR n m E) (potR n m E) ∧ Below w.heap.size w w' := by
  have hv' := Lib.hid hv
  clear hv
  by_cases hc : checkR n m E = 0
  · obtain ⟨k0, k1, hE, hs⟩ := check_ok hc
    obtain ⟨k, rfl⟩ := Int.eq_ofNat_of_zero_le k0
    rw [hc]
    exact RPots_ok k v m E w hv'.out hm (by omega) hE hc
  · have hb : Hid (badR n m E = false) := by unfold badR Hid; simp [hc]
    have hl : Hid (lenR n m E = 0) := by unfold lenR Hid; simp [hc]
    have hc' : (checkR n m E != 0) = true := by simpa using hc
    go_enter Try.func12, Try.ntmps12
    go_wp2_with fail
    refine (RCheck_any _ _ _ _ _ hv'.out hm (by omega) (by omega)).mono ?_
    rintro e w1 ⟨rfl, hb1⟩
    go_wp2
    go_ret3
    rw [hb.out, hl.out]
    exact ⟨_, rfl, IntsAt.nil _ _, hb1⟩

theorem Great_any (n : Int) (A : Option Addr) (m c : Nat) (w : World) (hm : m ≤ 9223372036854775807) :
    Calls Try.prog 9 #[.int .i64 n, .slice A m c] w fun e w' => e = .returned (.bool (decide (60 < n) || decide (200 < m))) ∧ w = w' := by
  by_cases h : 60 < n
  · go_enter Try.func9, Try.ntmps9
    go_wp2
    go_ret
    exact ⟨ret_bool (by simp [h]), rfl⟩
  · by_cases h2 : 200 < m
    · go_enter Try.func9, Try.ntmps9
      go_wp2
      go_ret
      exact ⟨ret_bool (by rw [Bool.eq_iff_iff]; simp; omega), rfl⟩
    · go_enter Try.func9, Try.ntmps9
      go_wp2
      go_ret
      exact ⟨ret_bool (by rw [Bool.eq_iff_iff]; simp; omega), rfl⟩

set_option maxHeartbeats 400000 in
theorem same_eq (u v : Value) (n : Nat) (f : Nat → Int) (w : World) (hu : IntsAt w u n f) (hv : IntsAt w v n f) :
    Calls Try.prog 13 #[u, v] w fun e w' => e = .returned (.bool true) ∧ ∃ d, w' = w.drewN d := by
  obtain ⟨A, c, rfl, hn, hr, hc⟩ := hu
  obtain ⟨A2, c2, rfl, _, _, hc2⟩ := hv
  have hc' := Lib.hid hc
  have hc2' := Lib.hid hc2
  clear hc hc2 hr
  go_enter Try.func13, Try.ntmps13
  go_wp2
  go_loopw [5] (fun i wr => ∃ k : Nat, k ≤ n ∧ i = .int .i64 k ∧ ∃ d, wr = w.drewN d) (fun i _ => n - (intOf i).toNat)
  case atStart => exact ⟨0, Nat.zero_le _, rfl, 0, rfl⟩
  case round =>
    obtain ⟨k, hk, rfl, d, rfl⟩ := hrel
    by_cases hlt : k < n
    · obtain ⟨b, o, rfl, hbl, hcs⟩ := hc'.out (by omega)
      obtain ⟨b2, o2, rfl, hbl2, hcs2⟩ := hc2'.out (by omega)
      have q0 := hcs k hlt
      have q1 := hcs2 k hlt
      clear hcs hcs2
      go_wp2
      go_quiet (fail)
      go_wp2
      go_roundw
      case rel => exact ⟨k + 1, by omega, by go_num, _, rfl⟩
      case measure => simp [intOf]; omega
    · go_wp2
      go_ret
      exact ⟨rfl, _, rfl⟩

theorem EdsAt.lit1 (w : World) (x y z : Int) (h : R64 x ∧ R64 y ∧ R64 z) : EdsAt (w.alloc (.cells #[.int .i64 x, .int .i64 y, .int .i64 z] 34)) (.slice (some ⟨w.heap.size, 0, none⟩) 1 1) 1 (fun _ => ⟨x, y, z⟩) := by
  refine ⟨_, _, rfl, by omega, fun _ _ => h, fun _ => ⟨w.heap.size, 0, rfl, by simp, fun i hi => ?_⟩⟩
  obtain rfl : i = 0 := by omega
  simp
theorem EdsAt.lit2 (w : World) (x y z x' y' z' : Int) (h : R64 x ∧ R64 y ∧ R64 z) (h' : R64 x' ∧ R64 y' ∧ R64 z') : EdsAt (w.alloc (.cells #[.int .i64 x, .int .i64 y, .int .i64 z, .int .i64 x', .int .i64 y', .int .i64 z'] 34)) (.slice (some ⟨w.heap.size, 0, none⟩) 2 2) 2 (fun i => if i = 0 then ⟨x, y, z⟩ else ⟨x', y', z'⟩) := by
  refine ⟨_, _, rfl, by omega, fun i _ => ?_, fun _ => ⟨w.heap.size, 0, rfl, by simp, fun i hi => ?_⟩⟩
  · dsimp only; split
    · exact h
    · exact h'
  · by_cases e : i = 0
    · subst e; simp
    · obtain rfl : i = 1 := by omega
      simp
def W1E : Nat → Ed := fun _ => ⟨0, 1, -2⟩
def W2E : Nat → Ed := fun i => if i = 0 then ⟨0, 1, -2⟩ else ⟨1, 0, 1⟩
theorem w1_check : checkR 2 1 W1E = 0 := by decide
theorem w1_bad : badR 2 1 W1E = false := by decide
theorem w1_len : lenR 2 1 W1E = 2 := by decide
theorem w1_p0 : potR 2 1 W1E 0 = 0 := by decide
theorem w1_p1 : potR 2 1 W1E 1 = -2 := by decide
theorem w2_check : checkR 2 2 W2E = 0 := by decide
theorem w2_bad : badR 2 2 W2E = true := by decide

set_option maxHeartbeats 400000 in
theorem wakes24_any (w : World) : Calls Try.prog 10 #[] w fun e w' => e = .returned (.bool true) ∧ Below w.heap.size w w' := by
  go_enter Try.func10, Try.ntmps10
  go_wp2_with fail
  have h1 := EdsAt.lit1 w 0 1 (-2) (by unfold R64; omega)
  refine (Pots_any 2 _ 1 W1E _ h1 (by omega) (by omega) (by omega)).mono ?_
  rintro e w1 ⟨u, rfl, hu, hb1⟩
  rw [w1_check, w1_bad]
  rw [w1_len] at hu
  have hb1' := ((Below.refl w.heap.size w).alloc (Nat.le_refl _) (.cells #[.int .i64 0, .int .i64 1, .int .i64 (-2)] 34)).trans (hb1.mono (by simp))
  go_wp2_with fail
  have h2 := EdsAt.lit2 w1 0 1 (-2) 1 0 1 (by unfold R64; omega) (by unfold R64; omega)
  refine (Pots_any 2 _ 2 W2E _ h2 (by omega) (by omega) (by omega)).mono ?_
  rintro e w2 ⟨u2, rfl, hu2, hb2⟩
  have hb3 := (Below.refl w1.heap.size w1).alloc (Nat.le_refl _) (.cells #[.int .i64 0, .int .i64 1, .int .i64 (-2), .int .i64 1, .int .i64 0, .int .i64 1] 34) |>.trans (hb2.mono (by simp))
  have hu' := hu.below hb3
  rw [w2_check, w2_bad]
  obtain ⟨A, c, rfl, _, _, hc⟩ := hu'
  obtain ⟨b, o, rfl, hbl, hcs⟩ := hc (by omega)
  have q0 := hcs 0 (by omega)
  have q1 := hcs 1 (by omega)
  rw [w1_p0, Nat.add_zero] at q0
  rw [w1_p1] at q1
  have hB := hb1'.trans (hb3.mono hb1'.size)
  clear hcs hc hb1 hb2 hb3 hu hu2 h1 h2 hb1'
  go_wp2
  go_ret
  exact ⟨rfl, hB⟩
end Go.Proofs.Ytoifcpdkophobaa
