/- sig.find at functions and macros. -/
import Derived.Test.YthkbekfdjfmmbaaFind
namespace Go.Proofs.Ythkbekfdjfmmbaa
open Go.RowKit
set_option maxRecDepth 100000

set_option maxHeartbeats 1000000 in
theorem idx_fun (v : Value) (n : Nat) (X : Nat → Fn) (Bo Bn : Nat) (name : ByteArray) (w : World) (hv : FnsAt w v n X) (h1 : w.cell? ⟨Bo, 0, none⟩ = some (.func (.func 47) #[] #[])) (h2 : w.cell? ⟨Bn, 0, none⟩ = some (.string name)) (hb : Bo < w.heap.size) (hb2 : Bn < w.heap.size) :
    Calls Try.prog 71 #[v, .func (.func 72) #[] #[.pointer (some ⟨Bo, 0, none⟩), .pointer (some ⟨Bn, 0, none⟩)]] w fun e w' => e = .returned (.int .i64 (firstI n fun i => eqS (X i).name name)) ∧ Below w.heap.size w w' := by
  have hv' := Lib.hid hv
  obtain ⟨A, c, rfl, ⟨hn, hc⟩, _⟩ := hv
  have h1' := Lib.hid h1
  have h2' := Lib.hid h2
  clear h1 h2
  go_enter Try.func71, Try.ntmps71
  go_wp2_with fail
  go_loopw [5, 8] (fun _ i wr => ∃ j : Nat, j ≤ n ∧ i = .int .i64 j ∧ Hid (∀ k, k < j → eqS (X k).name name = false) ∧ Hid (Below w.heap.size w wr)) (fun _ i _ => n - (intOf i).toNat)
  case atStart => exact ⟨0, Nat.zero_le _, rfl, fun k hk => absurd hk (Nat.not_lt_zero _), Below.refl _ _⟩
  case round =>
    obtain ⟨j, hj, rfl, hall, hbr⟩ := hrel
    by_cases hlt : j < n
    · have i1 : decide ((j : Int) < (n : Int)) = true := decide_eq_true (by omega)
      obtain ⟨_, _, e, _, hcs⟩ := hv'.out.below hbr.out
      injection e with e1 _ e3
      subst e1; subst e3
      obtain ⟨b, o, rfl, hbl, hcs⟩ := hcs (by omega)
      obtain ⟨c0, c1, c2, c3, c4, c5⟩ := (hcs j hlt).1
      clear hcs
      have y1 := (hbr.out.cell (p := ⟨Bo, 0, none⟩) hb).trans h1'.out
      have y2 := (hbr.out.cell (p := ⟨Bn, 0, none⟩) hb2).trans h2'.out
      have hsz := hbr.out.size
      have hcl0 := cls_fun Bo Bn (X j) name wr y1 y2 (by omega) (by omega)
      unfold fnV at hcl0
      have hcl := Lib.hid hcl0
      clear hcl0
      clear y1 y2
      cases hq : eqS (X j).name name with
      | true =>
        have hF := Lib.hid (firstI_hit (p := fun i => eqS (X i).name name) hlt hall.out hq)
        go_wp2_with (go_at_call 72; (with_reducible refine hcl.out.mono ?_); rintro e w2 ⟨rfl, hb2'⟩)
        go_ret
        exact ⟨ret_int hF.out.symm, hbr.out.trans (hb2'.mono hsz)⟩
      | false =>
        have hq' := Lib.hid hq
        go_wp2_with (go_at_call 72; (with_reducible refine hcl.out.mono ?_); rintro e w2 ⟨rfl, hb2'⟩)
        go_roundw
        case rel => exact ⟨j + 1, by omega, by go_num, fun k hk => by
          by_cases e : k = j
          · subst e; exact hq'.out
          · exact hall.out k (by omega), hbr.out.trans (hb2'.mono hsz)⟩
        case measure => simp [intOf]; omega
    · have i1 : decide ((j : Int) < (n : Int)) = false := decide_eq_false (by omega)
      have hF := Lib.hid (firstI_none (n := n) (p := fun i => eqS (X i).name name) fun i hi => hall.out i (by omega))
      go_wp2_with fail
      go_ret
      exact ⟨ret_int hF.out.symm, hbr.out⟩
theorem find_fun (v : Value) (n : Nat) (X : Nat → Fn) (name : ByteArray) (w : World) (hv : FnsAt w v n X) :
    Calls Try.prog 46 #[v, .func (.func 47) #[] #[], .string name] w fun e w' => e = .returned (findV (firstI n fun i => eqS (X i).name name)) ∧ Below w.heap.size w w' := by
  have hmf : ∀ (fn : Go.Fn) (first cap : Array Value) (w : World), (Instr.makeFunc fn first cap).run Try.prog w = .ok (.func fn first cap) w := fun _ _ _ _ => rfl
  have hx := ((Bx.nil w).one (.func (.func 47) #[] #[]) 86).one (.string name) 9
  obtain ⟨⟨k1, k2⟩, ⟨k3, k4⟩, _⟩ := hx.cells
  have hv' := hv.below hx.bel
  simp only [World.size_alloc] at k1 k2
  have hI := Lib.hid (idx_fun v n X _ _ name _ hv' k3 k1 k4 (by simp))
  have hbw := Lib.hid hx.bel
  clear k1 k2 k3 k4 hx
  generalize (firstI n fun i => eqS (X i).name name) = r at *
  go_enter Try.func46, Try.ntmps46
  go_wp2_with fail
  refine hI.out.mono ?_
  rintro e w2 ⟨rfl, hb2⟩
  by_cases hr : 0 ≤ r
  · have hF : Hid (findV r = .tuple #[.int .i64 r, .bool true]) := by unfold Hid findV; rw [Int.max_eq_left hr, decide_eq_true hr]
    go_wp2
    go_ret2
    exact ⟨by rw [hF.out]; rfl, hbw.out.trans (hb2.mono hbw.out.size)⟩
  · have hF : Hid (findV r = .tuple #[.int .i64 0, .bool false]) := by unfold Hid findV; rw [Int.max_eq_right (by omega), decide_eq_false hr]
    have d0 : decide (0 ≤ r) = false := decide_eq_false hr
    have hr2 : r < 0 := by omega
    clear hr
    go_wp2
    go_ret2
    exact ⟨by rw [hF.out]; rfl, hbw.out.trans (hb2.mono hbw.out.size)⟩
set_option maxHeartbeats 1000000 in
theorem idx_mac (v : Value) (n : Nat) (X : Nat → Mc) (Bo Bn : Nat) (name : ByteArray) (w : World) (hv : McsAt w v n X) (h1 : w.cell? ⟨Bo, 0, none⟩ = some (.func (.func 65) #[] #[])) (h2 : w.cell? ⟨Bn, 0, none⟩ = some (.string name)) (hb : Bo < w.heap.size) (hb2 : Bn < w.heap.size) :
    Calls Try.prog 85 #[v, .func (.func 86) #[] #[.pointer (some ⟨Bo, 0, none⟩), .pointer (some ⟨Bn, 0, none⟩)]] w fun e w' => e = .returned (.int .i64 (firstI n fun i => eqS (X i).name name)) ∧ Below w.heap.size w w' := by
  have hv' := Lib.hid hv
  obtain ⟨A, c, rfl, ⟨hn, hc⟩, _⟩ := hv
  have h1' := Lib.hid h1
  have h2' := Lib.hid h2
  clear h1 h2
  go_enter Try.func85, Try.ntmps85
  go_wp2_with fail
  go_loopw [5, 8] (fun _ i wr => ∃ j : Nat, j ≤ n ∧ i = .int .i64 j ∧ Hid (∀ k, k < j → eqS (X k).name name = false) ∧ Hid (Below w.heap.size w wr)) (fun _ i _ => n - (intOf i).toNat)
  case atStart => exact ⟨0, Nat.zero_le _, rfl, fun k hk => absurd hk (Nat.not_lt_zero _), Below.refl _ _⟩
  case round =>
    obtain ⟨j, hj, rfl, hall, hbr⟩ := hrel
    by_cases hlt : j < n
    · have i1 : decide ((j : Int) < (n : Int)) = true := decide_eq_true (by omega)
      obtain ⟨_, _, e, _, hcs⟩ := hv'.out.below hbr.out
      injection e with e1 _ e3
      subst e1; subst e3
      obtain ⟨b, o, rfl, hbl, hcs⟩ := hcs (by omega)
      obtain ⟨v0, v1, v2, v3, v4, v5, ⟨c0, c1, c2, c3, c4, c5⟩, rfl, -⟩ := hcs j hlt
      clear hcs
      have y1 := (hbr.out.cell (p := ⟨Bo, 0, none⟩) hb).trans h1'.out
      have y2 := (hbr.out.cell (p := ⟨Bn, 0, none⟩) hb2).trans h2'.out
      have hsz := hbr.out.size
      have hcl := Lib.hid (cls_mac Bo Bn (X j).name v1 v2 v3 v4 v5 name wr y1 y2 (by omega) (by omega))
      clear y1 y2
      cases hq : eqS (X j).name name with
      | true =>
        have hF := Lib.hid (firstI_hit (p := fun i => eqS (X i).name name) hlt hall.out hq)
        go_wp2_with (go_at_call 86; (with_reducible refine hcl.out.mono ?_); rintro e w2 ⟨rfl, hb2'⟩)
        go_ret
        exact ⟨ret_int hF.out.symm, hbr.out.trans (hb2'.mono hsz)⟩
      | false =>
        have hq' := Lib.hid hq
        go_wp2_with (go_at_call 86; (with_reducible refine hcl.out.mono ?_); rintro e w2 ⟨rfl, hb2'⟩)
        go_roundw
        case rel => exact ⟨j + 1, by omega, by go_num, fun k hk => by
          by_cases e : k = j
          · subst e; exact hq'.out
          · exact hall.out k (by omega), hbr.out.trans (hb2'.mono hsz)⟩
        case measure => simp [intOf]; omega
    · have i1 : decide ((j : Int) < (n : Int)) = false := decide_eq_false (by omega)
      have hF := Lib.hid (firstI_none (n := n) (p := fun i => eqS (X i).name name) fun i hi => hall.out i (by omega))
      go_wp2_with fail
      go_ret
      exact ⟨ret_int hF.out.symm, hbr.out⟩
theorem find_mac (v : Value) (n : Nat) (X : Nat → Mc) (name : ByteArray) (w : World) (hv : McsAt w v n X) :
    Calls Try.prog 64 #[v, .func (.func 65) #[] #[], .string name] w fun e w' => e = .returned (findV (firstI n fun i => eqS (X i).name name)) ∧ Below w.heap.size w w' := by
  have hmf : ∀ (fn : Go.Fn) (first cap : Array Value) (w : World), (Instr.makeFunc fn first cap).run Try.prog w = .ok (.func fn first cap) w := fun _ _ _ _ => rfl
  have hx := ((Bx.nil w).one (.func (.func 65) #[] #[]) 101).one (.string name) 9
  obtain ⟨⟨k1, k2⟩, ⟨k3, k4⟩, _⟩ := hx.cells
  have hv' := hv.below hx.bel
  simp only [World.size_alloc] at k1 k2
  have hI := Lib.hid (idx_mac v n X _ _ name _ hv' k3 k1 k4 (by simp))
  have hbw := Lib.hid hx.bel
  clear k1 k2 k3 k4 hx
  generalize (firstI n fun i => eqS (X i).name name) = r at *
  go_enter Try.func64, Try.ntmps64
  go_wp2_with fail
  refine hI.out.mono ?_
  rintro e w2 ⟨rfl, hb2⟩
  by_cases hr : 0 ≤ r
  · have hF : Hid (findV r = .tuple #[.int .i64 r, .bool true]) := by unfold Hid findV; rw [Int.max_eq_left hr, decide_eq_true hr]
    go_wp2
    go_ret2
    exact ⟨by rw [hF.out]; rfl, hbw.out.trans (hb2.mono hbw.out.size)⟩
  · have hF : Hid (findV r = .tuple #[.int .i64 0, .bool false]) := by unfold Hid findV; rw [Int.max_eq_right (by omega), decide_eq_false hr]
    have d0 : decide (0 ≤ r) = false := decide_eq_false hr
    have hr2 : r < 0 := by omega
    clear hr
    go_wp2
    go_ret2
    exact ⟨by rw [hF.out]; rfl, hbw.out.trans (hb2.mono hbw.out.size)⟩
end Go.Proofs.Ythkbekfdjfmmbaa
