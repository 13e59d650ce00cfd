/- gantryref01.Ints. -/
import Derived.Test.YtoppfcfalciibaaInts
import Derived.BigQuiet
namespace Go.Proofs.Ytoppfcfalciibaa
open Go.RowKit
set_option maxRecDepth 100000

set_option maxHeartbeats 4000000 in
theorem IntsQ_any (u v : Value) (n m : Nat) (f g : Nat → Int) (w : World) (hu : IntsAt w u n f) (hv : IntsAt w v m g) (he : n = m) (hfg : ∀ i, i < n → f i = g i) :
    Calls Try.prog 23 #[u, v] w fun e w' => e = .returned (.bool true) ∧ ∃ d, w' = w.drewN d := by
  subst he
  obtain ⟨U, cu, rfl, hm, hRu, hcu⟩ := hu
  obtain ⟨V, cv, rfl, _, hRv, hcv⟩ := hv
  have hcu' := Lib.hid hcu
  have hcv' := Lib.hid hcv
  have hRu' := Lib.hid hRu
  have hRv' := Lib.hid hRv
  have hfg' := Lib.hid hfg
  clear hcu hcv hRu hRv hfg
  go_enter Try.func23, Try.ntmps23
  go_wp2
  go_loopw [5] (fun i wr => ∃ j d : Nat, j ≤ n ∧ i = .int .i64 j ∧ wr = w.drewN d) (fun i _ => n - (intOf i).toNat)
  case atStart => exact ⟨0, 0, Nat.zero_le _, rfl, rfl⟩
  case round =>
    obtain ⟨j, d, hj, rfl, rfl⟩ := hrel
    by_cases hlt : j < n
    · obtain ⟨lb, lo, rfl, hlb, hcl⟩ := hcu'.out (by omega)
      obtain ⟨kb, ko, rfl, hkb, hck⟩ := hcv'.out (by omega)
      have hl := hcl j hlt
      have hk := hck j hlt
      rw [← hfg'.out j hlt] at hk
      have i1 : (j : Int) < (n : Int) := by omega
      clear hcl hck
      go_wp2
      go_quiet (fail)
      go_wp2
      go_roundw
      case rel => exact ⟨j + 1, d + nq, by omega, by go_num, rfl⟩
      case measure => simp [intOf]; omega
    · obtain rfl : j = n := by omega
      go_wp2
      go_ret
      exact ⟨rfl, d, rfl⟩
end Go.Proofs.Ytoppfcfalciibaa
