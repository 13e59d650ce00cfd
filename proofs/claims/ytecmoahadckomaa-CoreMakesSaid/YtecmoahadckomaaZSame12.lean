/- gantryref05.Same, gantrylaw12.same: of two that agree. -/
import Derived.Test.YtecmoahadckomaaZIntsToNumW
import Derived.Test.YtecmoahadckomaaZNodeArityStands
namespace Go.Proofs.Ytecmoahadckomaa
open Go.RowKit
set_option maxRecDepth 100000

theorem Same5_yes (u v : Value) (n : Nat) (N : Nat → Nd) (w : World) (hu : NdsAt w u n N) (hv : NdsAt w v n N) :
    Calls Try.prog 10 #[.agg #[u], .agg #[v]] w fun e w' => e = .returned (.bool true) ∧ Below w.heap.size w w' := by
  obtain ⟨A, c, rfl, _, _, hcs⟩ := hu
  obtain ⟨A2, c2, rfl, _, _, hcs2⟩ := hv
  have hcs' := Lib.hid hcs
  have hcs2' := Lib.hid hcs2
  have hx0 := Lib.hid (((Bx.nil w).one (.slice A n c) 24).one (.slice A2 n c2) 24)
  have hd : ((n : Int) != (n : Int)) = false := by simp
  have hen := run_eqNd
  obtain ⟨⟨q1, -⟩, ⟨q0, -⟩, -⟩ := hx0.out.cells
  clear hcs hcs2
  go_enter Try.func10, Try.ntmps10
  go_wp2_with fail
  clear q0 q1
  go_loopw [5] (fun i wr => ∃ j : Nat, j ≤ n ∧ i = .int .i64 j ∧ Hid (Bx w [(w.heap.size + 1, 0, .slice A2 n c2), (w.heap.size, 0, .slice A n c)] wr)) (fun i _ => n - (intOf i).toNat)
  case atStart => exact ⟨0, Nat.zero_le _, rfl, by unfold Hid; simpa using hx0.out⟩
  case round =>
    clear hx0
    obtain ⟨j, hj, rfl, hx⟩ := hrel
    obtain ⟨⟨q1, -⟩, ⟨q0, -⟩, -⟩ := hx.out.cells
    by_cases hlt : j < n
    · have i1 : decide ((j : Int) < (n : Int)) = true := decide_eq_true (by omega)
      obtain ⟨b, o, rfl, hbl, hc⟩ := hcs'.out (by omega)
      obtain ⟨b2, o2, rfl, hbl2, hc2⟩ := hcs2'.out (by omega)
      obtain ⟨c0, c1, c2', c3, c4, c5, c6, c7⟩ := (hc j hlt).keep (w' := wr) (fun k => hx.out.bel.cell (p := ⟨b, k, none⟩) hbl)
      obtain ⟨e0, e1, e2, e3, e4, e5, e6, e7⟩ := (hc2 j hlt).keep (w' := wr) (fun k => hx.out.bel.cell (p := ⟨b2, k, none⟩) hbl2)
      have hq := (ndEq_eq (N j) (N j)).trans (decide_eq_true rfl)
      have j0 : (0 : Int) ≤ (j : Int) := by omega
      have j1 : (j : Int) < (n : Int) := by omega
      clear hc hc2
      go_wp2_with fail
      go_quiet (fail)
      go_wp2_with fail
      go_roundw
      case rel => exact ⟨j + 1, by omega, by go_num, hx.out.drewN _⟩
      case measure => simp [intOf]; omega
    · have i1 : decide ((j : Int) < (n : Int)) = false := decide_eq_false (by omega)
      go_wp2_with fail
      go_ret
      exact ⟨rfl, hx.out.bel⟩
theorem SameL12_yes (u v : Value) (n : Nat) (f : Nat → Int) (w : World) (hu : IntsAt w u n f) (hv : IntsAt w v n f) (hn : n ≤ 1000000) :
    Calls Try.prog 11 #[u, v] w fun e w' => e = .returned (.bool true) ∧ Below w.heap.size w w' := by
  obtain ⟨A, c, rfl, _, _, hcs⟩ := hu
  obtain ⟨A2, c2, rfl, _, _, hcs2⟩ := hv
  have hcs' := Lib.hid hcs
  have hcs2' := Lib.hid hcs2
  have hd : ((n : Int) != (n : Int)) = false := by simp
  clear hcs hcs2
  go_enter Try.func11, Try.ntmps11
  go_wp2_with fail
  go_loopw [5] (fun i wr => ∃ j : Nat, j ≤ n ∧ i = .int .i64 j ∧ Hid (Bx w [] wr)) (fun i _ => n - (intOf i).toNat)
  case atStart => exact ⟨0, Nat.zero_le _, rfl, Bx.nil w⟩
  case round =>
    obtain ⟨j, hj, rfl, hx⟩ := hrel
    by_cases hlt : j < n
    · have i1 : decide ((j : Int) < (n : Int)) = true := decide_eq_true (by omega)
      obtain ⟨b, o, rfl, hbl, hc⟩ := hcs'.out (by omega)
      obtain ⟨b2, o2, rfl, hbl2, hc2⟩ := hcs2'.out (by omega)
      have r1 := (hx.out.bel.cell (p := ⟨b, o + j, none⟩) hbl).trans (hc j hlt)
      have r2 := (hx.out.bel.cell (p := ⟨b2, o2 + j, none⟩) hbl2).trans (hc2 j hlt)
      have hq : (f j != f j) = false := by simp
      have j0 : (0 : Int) ≤ (j : Int) := by omega
      have j1 : (j : Int) < (n : Int) := by omega
      clear hc hc2
      go_wp2_with fail
      go_quiet (fail)
      go_wp2_with fail
      go_roundw
      case rel => exact ⟨j + 1, by omega, by go_num, hx.out.drewN _⟩
      case measure => simp [intOf]; omega
    · have i1 : decide ((j : Int) < (n : Int)) = false := decide_eq_false (by omega)
      go_wp2_with fail
      go_ret
      exact ⟨rfl, hx.out.bel⟩
end Go.Proofs.Ytecmoahadckomaa
