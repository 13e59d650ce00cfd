/- gantryref15.has, gantryref15.Within: one number, that is there. -/
import Derived.Test.YtioceechdombjaaIdlI
namespace Go.Proofs.Ytioceechdombjaa
open Go.RowKit Go.Maps
set_option maxRecDepth 100000

set_option maxHeartbeats 1000000 in
theorem has_any (u : Value) (m : Nat) (f : Nat → Int) (x : Int) (w : World) (hu : IntsAt w u m f) (hx : R64 x) (hk : ∃ k, k < m ∧ f k = x) :
    Calls Try.prog 40 #[u, .int .i64 x] w fun e w' => e = .returned (.bool true) ∧ w' = w := by
  obtain ⟨k, hk1, hk2⟩ := hk
  obtain ⟨U, cu, rfl, hm, hRu, hcu⟩ := hu
  obtain ⟨ub, uo, rfl, hub, hcu⟩ := hcu (by omega)
  have hcu' := Lib.hid hcu
  have hkh := Lib.hid hk2
  obtain ⟨hx0, hx1⟩ := hx
  clear hcu hRu hk2
  go_enter Try.func40, Try.ntmps40
  go_wp2
  go_loopw [5] (fun i wr => ∃ j : Nat, j ≤ k ∧ i = .int .i64 j ∧ wr = w) (fun i _ => k - (intOf i).toNat)
  case atStart => exact ⟨0, Nat.zero_le _, rfl, rfl⟩
  case round =>
    obtain ⟨j, hj, rfl, rfl⟩ := hrel
    have i1 : decide ((j : Int) < (m : Int)) = true := decide_eq_true (by omega)
    have rj := hcu'.out j (by omega)
    by_cases he : f j = x
    · rw [he] at rj
      go_wp2
      go_ret
      exact ⟨rfl, rfl⟩
    · have hlt : j < k := by
        rcases Nat.lt_or_ge j k with h | h
        · exact h
        · have : j = k := by omega
          subst this
          exact absurd hkh.out he
      have d1 : (f j == x) = false := by simpa using he
      go_wp2
      go_roundw
      case rel => exact ⟨j + 1, by omega, by go_num, trivial⟩
      case measure => simp [intOf]; omega
set_option maxHeartbeats 1000000 in
theorem Within_any (z u : Value) (m : Nat) (f : Nat → Int) (x : Int) (w : World) (hz : IntsAt w z 1 (fun _ => x)) (hu : IntsAt w u m f) (hx : R64 x) (hk : ∃ k, k < m ∧ f k = x) :
    Calls Try.prog 18 #[z, u] w fun e w' => e = .returned (.bool true) ∧ w' = w := by
  obtain ⟨Z, cz, rfl, _, _, hcz⟩ := hz
  obtain ⟨zb, zo, rfl, hzb, hcz⟩ := hcz (by omega)
  have r0 := hcz 0 (by omega)
  rw [Nat.add_zero] at r0
  have hu' := Lib.hid hu
  have hk' := Lib.hid hk
  obtain ⟨U, cu, rfl, _, _, _⟩ := hu
  clear hcz hk
  go_enter Try.func18, Try.ntmps18
  go_wp2
  go_loopw [5] (fun i wr => ∃ j : Nat, j ≤ 1 ∧ i = .int .i64 j ∧ wr = w) (fun i _ => 1 - (intOf i).toNat)
  case atStart => exact ⟨0, Nat.zero_le _, rfl, rfl⟩
  case round =>
    obtain ⟨j, hj, rfl, rfl⟩ := hrel
    by_cases h0 : j = 0
    · subst h0
      go_wp2_with fail
      refine (has_any _ m f x wr hu'.out hx hk'.out).mono ?_
      rintro e w3 ⟨rfl, rfl⟩
      go_wp2
      go_roundw
      case rel => exact ⟨1, by omega, by go_num, trivial⟩
      case measure => simp [intOf]
    · have h1 : j = 1 := by omega
      subst h1
      go_wp2
      go_ret
      exact ⟨rfl, rfl⟩
end Go.Proofs.Ytioceechdombjaa
