/- slices.IndexFunc, ContainsFunc with value.May$1: sizes that may be. -/
import Derived.Test.YtdcohcjkimgccaaZRwMapVRows
import Derived.Test.YtdcohcjkimgccaaZSigMSigL
namespace Go.Proofs.Ytdcohcjkimgccaa
open Go.RowKit

def sizeB (z : Int) : Bool := decide (1 ≤ z ∧ z ≤ 1000)
theorem May1_any (n : Int) (w : World) (h : R64 n) :
    Calls Try.prog 80 #[.int .i64 n] w fun e w' => e = .returned (.bool (!sizeB n)) ∧ w = w' := by
  obtain ⟨h0, h1⟩ := h
  go_enter Try.func80, Try.ntmps80
  by_cases g : n < 1
  · have d : decide (n < 1) = true := decide_eq_true g
    have hR : Hid (sizeB n = false) := decide_eq_false (by omega)
    clear g
    go_wp2
    go_ret
    exact ⟨by rw [hR.out]; rfl, rfl⟩
  · have d : decide (n < 1) = false := decide_eq_false g
    by_cases g2 : 1000 < n
    · have d2 : decide (1000 < n) = true := decide_eq_true g2
      have hR : Hid (sizeB n = false) := decide_eq_false (by omega)
      clear g g2
      go_wp2
      go_ret
      exact ⟨by rw [hR.out]; rfl, rfl⟩
    · have d2 : decide (1000 < n) = false := decide_eq_false g2
      have hR : Hid (sizeB n = true) := decide_eq_true (by omega)
      clear g g2
      go_wp2
      go_ret
      exact ⟨by rw [hR.out]; rfl, rfl⟩
theorem sizesIdx_any (u : Value) (k : Nat) (f : Nat → Int) (w : World) (hu : IntsAt w u k f) :
    Calls Try.prog 132 #[u, .func (.func 80) #[] #[]] w fun e w' =>
      (∃ x : Int, e = .returned (.int .i64 x) ∧ decide (0 ≤ x) = !upTo k fun i => sizeB (f i)) ∧ w = w' := by
  obtain ⟨A2, c2, rfl, hk, hr2, hc2⟩ := hu
  have hc2' := Lib.hid hc2
  have hr2' := Lib.hid hr2
  have hno := Lib.hid fun j (hj : j < k) h => upTo_no (p := fun i => sizeB (f i)) hj h
  have hyes := Lib.hid fun h => upTo_yes (n := k) (p := fun i => sizeB (f i)) h
  clear hc2 hr2
  go_enter Try.func132, Try.ntmps132
  go_wp2
  go_loop [8] (fun i => ∃ j : Nat, j ≤ k ∧ i = .int .i64 j ∧ Hid (∀ r, r < j → sizeB (f r) = true)) (fun i => k - (intOf i).toNat)
  case atStart => exact ⟨0, Nat.zero_le _, rfl, fun r h => absurd h (Nat.not_lt_zero _)⟩
  case round =>
    obtain ⟨j, hj, rfl, hs⟩ := hrel
    by_cases hlt : j < k
    · obtain ⟨b2, o2, rfl, hbl2, hcs2⟩ := hc2'.out (by omega)
      have q0 := hcs2 j hlt
      have hr := hr2'.out j hlt
      clear hcs2
      cases hmy : sizeB (f j) with
      | false =>
        have hmy' := Lib.hid hmy
        clear hmy
        go_wp2_with fail
        refine (May1_any _ _ hr).mono ?_
        rintro e w' ⟨rfl, rfl⟩
        rw [hmy'.out]
        go_wp2
        go_ret
        refine ⟨⟨j, rfl, ?_⟩, rfl⟩
        rw [hno.out j hlt hmy'.out]
        simp
      | true =>
        have hmy' := Lib.hid hmy
        clear hmy
        go_wp2_with fail
        refine (May1_any _ _ hr).mono ?_
        rintro e w' ⟨rfl, rfl⟩
        rw [hmy'.out]
        go_wp2
        go_round
        case rel => exact ⟨j + 1, by omega, by go_num, fun r h => by
          by_cases e : r = j
          · subst e; exact hmy'.out
          · exact hs.out r (by omega)⟩
        case measure => simp [intOf]; omega
    · go_wp2
      go_ret
      refine ⟨⟨-1, rfl, ?_⟩, rfl⟩
      rw [hyes.out fun i hi => hs.out i (by omega)]; rfl
theorem sizes_any (u : Value) (k : Nat) (f : Nat → Int) (w : World) (hu : IntsAt w u k f) :
    Calls Try.prog 79 #[u, .func (.func 80) #[] #[]] w fun e w' => e = .returned (.bool (!upTo k fun i => sizeB (f i))) ∧ w = w' := by
  generalize hq : (!upTo k fun i => sizeB (f i)) = q
  have hq' := Lib.hid hq
  clear hq
  go_enter Try.func79, Try.ntmps79
  go_wp2_with fail
  refine (sizesIdx_any u k f w hu).mono ?_
  rintro e w1 ⟨⟨x, rfl, hx⟩, rfl⟩
  rw [hq'.out] at hx
  have hx' := Lib.hid hx
  clear hx
  go_wp2
  go_ret
  exact ⟨ret_bool hx'.out, rfl⟩
end Go.Proofs.Ytdcohcjkimgccaa
