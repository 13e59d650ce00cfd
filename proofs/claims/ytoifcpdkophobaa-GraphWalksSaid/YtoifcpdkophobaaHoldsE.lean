/- slices.IndexFunc, ContainsFunc with graph.Holds$1. -/
import Derived.Test.YtoifcpdkophobaaGraphI
import Derived.Test.YtoifcpdkophobaaAtmE
namespace Go.Proofs.Ytoifcpdkophobaa
open Go.RowKit

theorem Holds1_any (n : Int) (w : World) (h0 : -9223372036854775808 ≤ n) (h1 : n ≤ 9223372036854775807) :
    Calls Try.prog 29 #[.int .i64 n] w fun e w' => e = .returned (.bool (!mayB n)) ∧ w = w' := by
  go_enter Try.func29, Try.ntmps29
  go_wp2_with fail
  refine (May_any n w h0 h1).mono ?_
  rintro e w1 ⟨rfl, rfl⟩
  go_wp2
  go_ret
  exact ⟨rfl, rfl⟩

theorem nums_no {k j : Nat} {f : Nat → Int} (hlt : j < k) (hmy : mayB (f j) = false) : numsB f k = false := by
  cases hn : numsB f k with
  | false => rfl
  | true => rw [(numsB_iff f k).1 hn j hlt] at hmy; cases hmy

theorem IndexFunc_any (u : Value) (k : Nat) (f : Nat → Int) (w : World) (hu : IntsAt w u k f) :
    Calls Try.prog 34 #[u, .func (.func 29) #[] #[]] w fun e w' =>
      (∃ x : Int, e = .returned (.int .i64 x) ∧ decide (0 ≤ x) = !numsB f k) ∧ w = w' := by
  obtain ⟨A2, c2, rfl, hk, hr2, hc2⟩ := hu
  have hc2' := Lib.hid hc2
  have hr2' := Lib.hid hr2
  clear hc2 hr2
  go_enter Try.func34, Try.ntmps34
  go_wp2
  go_loop [8] (fun i => ∃ j : Nat, j ≤ k ∧ i = .int .i64 j ∧ Hid (numsB f j = true)) (fun i => k - (intOf i).toNat)
  case atStart => exact ⟨0, Nat.zero_le _, rfl, rfl⟩
  case round =>
    obtain ⟨j, hj, rfl, hs⟩ := hrel
    by_cases hlt : j < k
    · obtain ⟨b2, o2, rfl, hbl2, hcs2⟩ := hc2'.out (by omega)
      have q0 := hcs2 j hlt
      obtain ⟨r0, r1⟩ := hr2'.out j hlt
      clear hcs2
      cases hmy : mayB (f j) with
      | false =>
        have hmy' := Lib.hid hmy
        clear hmy
        go_wp2_with fail
        refine (Holds1_any _ _ r0 r1).mono ?_
        rintro e w' ⟨rfl, rfl⟩
        rw [hmy'.out]
        go_wp2
        go_ret
        refine ⟨⟨j, rfl, ?_⟩, rfl⟩
        rw [nums_no hlt hmy'.out]
        simp
      | true =>
        have hmy' := Lib.hid hmy
        clear hmy
        go_wp2_with fail
        refine (Holds1_any _ _ r0 r1).mono ?_
        rintro e w' ⟨rfl, rfl⟩
        rw [hmy'.out]
        go_wp2
        go_round
        case rel => exact ⟨j + 1, by omega, by go_num, by show numsB f (j + 1) = true; rw [numsB, hs.out, hmy'.out]; rfl⟩
        case measure => simp [intOf]; omega
    · go_wp2
      go_ret
      refine ⟨⟨-1, rfl, ?_⟩, rfl⟩
      have := hs.out
      rw [show j = k by omega] at this
      rw [this]; rfl

theorem ContainsFunc_any (u : Value) (k : Nat) (f : Nat → Int) (w : World) (hu : IntsAt w u k f) :
    Calls Try.prog 28 #[u, .func (.func 29) #[] #[]] w fun e w' => e = .returned (.bool (!numsB f k)) ∧ w = w' := by
  go_enter Try.func28, Try.ntmps28
  go_wp2_with fail
  refine (IndexFunc_any u k f w hu).mono ?_
  rintro e w1 ⟨⟨x, rfl, hx⟩, rfl⟩
  have hx' := Lib.hid hx
  clear hx
  go_wp2
  go_ret
  exact ⟨ret_bool hx'.out, rfl⟩
end Go.Proofs.Ytoifcpdkophobaa
