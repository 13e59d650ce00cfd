/- graph.Pots: Check, then relax. -/
import Derived.Test.YtioceechdombjaaGraphB
import Derived.Test.YtioceechdombjaaGraphE
namespace Go.Proofs.Ytioceechdombjaa
open Go.RowKit

def badR (n : Int) (m : Nat) (E : Nat → Ed) : Bool := decide (checkR n m E = 0 ∧ 0 ≤ (relaxR n.toNat E m).fell)
def lenR (n : Int) (m : Nat) (E : Nat → Ed) : Nat := if checkR n m E = 0 ∧ (relaxR n.toNat E m).fell < 0 then n.toNat else 0
def potR (n : Int) (m : Nat) (E : Nat → Ed) : Nat → Int := (relaxR n.toNat E m).s.p

theorem sumTo_some {f : Nat → Int} {m : Int} {n : Nat} (h : sumTo f m n ≠ none) : ∀ i, i < n → -4611686018427387904 ≤ f i ∧ f i ≤ 4611686018427387904 := by
  induction n with
  | zero => intro i hi; omega
  | succ n ih =>
    intro i hi
    cases hs : sumTo f m n with
    | none => exact absurd (sumTo_none hs (by omega)) h
    | some s =>
      by_cases e : i = n
      · subst e
        rw [sumTo_succ hs] at h
        by_cases hc : (f i ≤ 4611686018427387904 ∧ -4611686018427387904 ≤ f i) ∧ (f i < m - s ∧ - f i < m - s)
        · omega
        · rw [if_neg hc] at h; exact absurd rfl h
      · exact ih (by rw [hs]; simp) i (by omega)
theorem check_ok {n : Int} {m : Nat} {E : Nat → Ed} (h : checkR n m E = 0) : 0 ≤ n ∧ n ≤ 4096 ∧ EdOk n.toNat E m ∧ sumTo (fun i => (E i).wt) 4611686018427387904 m ≠ none := by
  unfold checkR at h
  by_cases h1 : n < 0 ∨ 4096 < n
  · rw [if_pos h1] at h; omega
  rw [if_neg h1] at h
  by_cases h2 : edsB n E m = false
  · rw [if_pos h2] at h; omega
  rw [if_neg h2] at h
  by_cases h3 : sumTo (fun i => (E i).wt) 4611686018427387904 m = none
  · rw [if_pos h3] at h; omega
  refine ⟨by omega, by omega, fun i hi => ?_, h3⟩
  have := (edsB_iff n E m).1 (by simpa using h2) i hi
  have := sumTo_some h3 i hi
  omega

set_option maxHeartbeats 400000 in
theorem Pots_any (n : Int) (v : Value) (m : Nat) (E : Nat → Ed) (w : World) (hv : EdsAt w v m E) (hm : m ≤ 1000000) (hn0 : -9223372036854775808 ≤ n) (hn1 : n ≤ 9223372036854775807) :
    Calls Try.prog 31 #[.int .i64 n, v] w fun e w' => ∃ u, e = .returned (.tuple #[u, .bool (badR n m E), .int .i64 (checkR n m E)]) ∧ IntsAt w' u (lenR n m E) (potR n m E) ∧ Below w.heap.size w w' := by
  have hv' := Lib.hid hv
  clear hv
  by_cases hc : checkR n m E = 0
  · obtain ⟨k0, k1, hE, hs⟩ := check_ok hc
    obtain ⟨k, rfl⟩ := Int.eq_ofNat_of_zero_le k0
    have hE' := Lib.hid hE
    clear hE hs
    by_cases hf : 0 ≤ (relaxR k E m).fell
    · have hb : Hid (badR k m E = true) := by unfold badR Hid; simp [hc, hf]
      have hl : Hid (lenR k m E = 0) := by unfold lenR Hid; simp; omega
      have hc' := Lib.hid hc
      clear hc
      go_enter Try.func31, Try.ntmps31
      go_wp2_with fail
      refine (GCheck_any _ _ _ _ _ hv'.out hm (by omega) (by omega)).mono ?_
      rintro e w1 ⟨rfl, hb1⟩
      rw [hc'.out]
      go_wp2_with fail
      refine (relax_any k _ m E _ (hv'.out.below hb1) hm (by omega) hE'.out).mono ?_
      rintro e w2 ⟨u1, u2, rfl, hu1, hu2, hb2⟩
      go_wp2
      go_ret3
      rw [hb.out, hl.out, hc'.out]
      exact ⟨_, rfl, ⟨none, 0, rfl, by omega, fun i hi => by omega, fun h => by omega⟩, hb1.trans (hb2.mono hb1.size)⟩
    · have hb : Hid (badR k m E = false) := by unfold badR Hid; simp; omega
      have hl : Hid (lenR k m E = k) := by unfold lenR Hid; rw [if_pos ⟨hc, by simpa using hf⟩]; simp
      have hc' := Lib.hid hc
      clear hc
      go_enter Try.func31, Try.ntmps31
      go_wp2_with fail
      refine (GCheck_any _ _ _ _ _ hv'.out hm (by omega) (by omega)).mono ?_
      rintro e w1 ⟨rfl, hb1⟩
      rw [hc'.out]
      go_wp2_with fail
      refine (relax_any k _ m E _ (hv'.out.below hb1) hm (by omega) hE'.out).mono ?_
      rintro e w2 ⟨u1, u2, rfl, hu1, hu2, hb2⟩
      go_wp2
      go_ret3
      rw [hb.out, hl.out, hc'.out]
      exact ⟨_, rfl, hu1, hb1.trans (hb2.mono hb1.size)⟩
  · have hb : Hid (badR n m E = false) := by unfold badR Hid; simp [hc]
    have hl : Hid (lenR n m E = 0) := by unfold lenR Hid; simp [hc]
    have hc' : (checkR n m E != 0) = true := by simpa using hc
    go_enter Try.func31, Try.ntmps31
    go_wp2_with fail
    refine (GCheck_any _ _ _ _ _ hv'.out hm (by omega) (by omega)).mono ?_
    rintro e w1 ⟨rfl, hb1⟩
    go_wp2
    go_ret3
    rw [hb.out, hl.out]
    exact ⟨_, rfl, ⟨none, 0, rfl, by omega, fun i hi => by omega, fun h => by omega⟩, hb1⟩
end Go.Proofs.Ytioceechdombjaa
