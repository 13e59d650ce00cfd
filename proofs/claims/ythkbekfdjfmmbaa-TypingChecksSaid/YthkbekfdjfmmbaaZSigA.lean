/- sig.there, sig.fun. -/
import Derived.Test.YthkbekfdjfmmbaaZSigW
import Derived.Test.YthkbekfdjfmmbaaZNameFirst
import Derived.Test.YthkbekfdjfmmbaaZBoxes
namespace Go.Proofs.Ythkbekfdjfmmbaa
open Go.RowKit
set_option maxRecDepth 100000

theorem there_any (A : Option Addr) (n c : Nat) (fv mv : Value) (x : Int) (w : World) (hn : n ≤ 9223372036854775800) :
    Calls Try.prog 66 #[.agg #[.slice A n c, fv, mv], .int .i64 x] w fun e w' => e = .returned (.bool (thereB n x)) ∧ Below w.heap.size w w' := by
  by_cases h0 : 0 ≤ x
  · by_cases h1 : x < (n : Int) + 2
    · have hR := Lib.hid (thereB_t (ns := n) ⟨h0, h1⟩)
      have d0 : decide (0 ≤ x) = true := decide_eq_true h0
      have d1 : decide (x < 2 + (n : Int)) = true := decide_eq_true (by omega)
      clear h0 h1
      go_enter Try.func66, Try.ntmps66
      go_wp2
      go_ret
      exact ⟨ret_bool hR.out.symm, (Below.refl _ _).alloc (Nat.le_refl _) _⟩
    · have hR := Lib.hid (thereB_f (ns := n) (x := x) (fun h => h1 h.2))
      have d0 : decide (0 ≤ x) = true := decide_eq_true h0
      have d1 : decide (x < 2 + (n : Int)) = false := decide_eq_false (by omega)
      clear h0 h1
      go_enter Try.func66, Try.ntmps66
      go_wp2
      go_ret
      exact ⟨ret_bool hR.out.symm, (Below.refl _ _).alloc (Nat.le_refl _) _⟩
  · have hR := Lib.hid (thereB_f (ns := n) (x := x) (fun h => h0 h.1))
    have d0 : decide (0 ≤ x) = false := decide_eq_false h0
    clear h0
    go_enter Try.func66, Try.ntmps66
    go_wp2
    go_ret
    exact ⟨ret_bool hR.out.symm, (Below.refl _ _).alloc (Nat.le_refl _) _⟩

set_option maxHeartbeats 4000000 in
theorem fun_any (A : Option Addr) (n c : Nat) (fv mv : Value) (f : Fn) (w : World) (hn : n ≤ 9223372036854775800) :
    Calls Try.prog 39 #[.agg #[.slice A n c, fv, mv], fnV f] w fun e w' => e = .returned (.bool (funB n f)) ∧ Below w.heap.size w w' := by
  unfold fnV
  by_cases hl : 0 ≤ f.len ∧ f.len ≤ 3
  · have e0 : decide (f.len < 0) = false := decide_eq_false (by omega)
    have e1 : decide (3 < f.len) = false := decide_eq_false (by omega)
    have hl' := Lib.hid hl
    clear hl
    have hth := Lib.hid fun x w => there_any A n c fv mv x w hn
    have hx0 : Bx w (fbox w A n c fv mv f) ((w.alloc (.cells #[.slice A n c, fv, mv] 26)).alloc (.cells #[.string f.name, .int .i64 f.len, .int .i64 f.a0, .int .i64 f.a1, .int .i64 f.a2, .int .i64 f.res] 29)) :=
      (((Bx.nil w).row #[.slice A n c, fv, mv] 26).row #[.string f.name, .int .i64 f.len, .int .i64 f.a0, .int .i64 f.a1, .int .i64 f.a2, .int .i64 f.res] 29).cast (by simp [rowK, fbox])
    go_enter Try.func39, Try.ntmps39
    go_wp2_with fail
    refine (hth.out f.res _).mono ?_
    rintro e w1 ⟨rfl, hb1⟩
    have hx1 := hx0.step hb1
    have hres := hl'.out
    clear hb1 hx0
    cases hr : thereB n f.res with
    | false =>
      have hF := Lib.hid (funB_res (ns := n) (f := f) hr)
      have hbw := hx1.bel
      clear hres
      go_wp2_with fail
      go_ret
      exact ⟨ret_bool hF.out.symm, hbw⟩
    | true =>
      have hr' := Lib.hid hr
      clear hr
      have hx1' := Lib.hid hx1
      obtain ⟨c0, c1, c2, c3, c4, c5, c6, c7, c8, _⟩ := hx1.cells
      replace c0 := c0.1
      replace c1 := c1.1
      replace c2 := c2.1
      replace c3 := c3.1
      replace c4 := c4.1
      replace c5 := c5.1
      replace c6 := c6.1
      replace c7 := c7.1
      replace c8 := c8.1
      clear hx1 hres
      go_wp2_with fail
      clear c0 c1 c2 c3 c4 c5 c6 c7 c8
      have hix : ∀ (j : Nat) (W : World), j < 3 → (Instr.index 27 (.agg #[.int .i64 f.a0, .int .i64 f.a1, .int .i64 f.a2]) (.int .i64 j)).run Try.prog W = .ok (.int .i64 (f.arg j)) W := fun j W hj => run_ixF f j hj W
      have hix' := Lib.hid hix
      clear hix
      go_loopw [5, 6, 24] (fun _ _ i wr => ∃ j : Nat, j ≤ 3 ∧ i = .int .i64 j ∧ Hid (∀ k, k < j → fargB n f k = true) ∧ Hid (Bx w (fbox w A n c fv mv f) wr)) (fun _ _ i _ => 3 - (intOf i).toNat)
      case atStart => exact ⟨0, Nat.zero_le _, rfl, fun k hk => absurd hk (Nat.not_lt_zero _), hx1'.out⟩
      case round =>
        obtain ⟨j, hj, rfl, hall, hx⟩ := hrel
        have hxo := hx.out
        unfold fbox at hxo
        obtain ⟨c0, c1, c2, c3, c4, c5, c6, c7, c8, _⟩ := hxo.cells
        replace c0 := c0.1
        replace c1 := c1.1
        replace c2 := c2.1
        replace c3 := c3.1
        replace c4 := c4.1
        replace c5 := c5.1
        replace c6 := c6.1
        replace c7 := c7.1
        replace c8 := c8.1
        clear hxo
        by_cases hlt : j < 3
        · have i1 : decide ((j : Int) < 3) = true := decide_eq_true (by omega)
          have hij := fun W => hix'.out j W hlt
          have hlt' := Lib.hid hlt
          by_cases hjl : (j : Int) < f.len
          · have d1 : decide ((j : Int) < f.len) = true := decide_eq_true hjl
            have d2 : decide (f.len ≤ (j : Int)) = false := decide_eq_false (by omega)
            cases ht : thereB n (f.arg j) with
            | true =>
              have hok : Hid (fargB n f j = true) := by unfold Hid fargB; rw [if_pos hjl]; exact ht
              clear hjl hlt
              go_wp2_with (go_at_call 66; (with_reducible refine (hth.out (f.arg j) _).mono ?_); rintro e w2 ⟨rfl, hb2⟩; have hx2 := Lib.hid (hx.out.step hb2); clear hb2; have q1 := fbox_len hx2.out)
              go_roundw
              case rel => exact ⟨j + 1, by have := hlt'.out; omega, by go_num, fun k hk => by
                by_cases e : k = j
                · subst e; exact hok.out
                · exact hall.out k (by omega), hx2.out⟩
              case measure => have := hlt'.out; simp [intOf]; omega
            | false =>
              have hF := Lib.hid (funB_arg (ns := n) (f := f) hlt (by unfold fargB; rw [if_pos hjl]; exact ht))
              clear hjl hlt
              go_wp2_with (go_at_call 66; (with_reducible refine (hth.out (f.arg j) _).mono ?_); rintro e w2 ⟨rfl, hb2⟩; have hx2 := Lib.hid (hx.out.step hb2); clear hb2; have q1 := fbox_len hx2.out)
              go_ret
              exact ⟨ret_bool hF.out.symm, hx2.out.bel⟩
          · have d1 : decide ((j : Int) < f.len) = false := decide_eq_false hjl
            have d2 : decide (f.len ≤ (j : Int)) = true := decide_eq_true (by omega)
            by_cases hz : f.arg j = 0
            · have d3 : (f.arg j != 0) = false := by simpa using hz
              have hok : Hid (fargB n f j = true) := by unfold Hid fargB; rw [if_neg hjl]; exact decide_eq_true hz
              clear hjl hlt hz
              go_wp2_with fail
              go_roundw
              case rel => exact ⟨j + 1, by have := hlt'.out; omega, by go_num, fun k hk => by
                by_cases e : k = j
                · subst e; exact hok.out
                · exact hall.out k (by omega), hx.out⟩
              case measure => have := hlt'.out; simp [intOf]; omega
            · have d3 : (f.arg j != 0) = true := by simpa using hz
              have hF := Lib.hid (funB_arg (ns := n) (f := f) hlt (by unfold fargB; rw [if_neg hjl]; exact decide_eq_false hz))
              clear hjl hlt hz
              go_wp2_with fail
              go_ret
              exact ⟨ret_bool hF.out.symm, hx.out.bel⟩
        · have i1 : decide ((j : Int) < 3) = false := decide_eq_false (by omega)
          have hF := Lib.hid (funB_yes (ns := n) (f := f) hl'.out hr'.out fun i hi => hall.out i (by omega))
          clear hlt
          go_wp2_with fail
          go_ret
          exact ⟨ret_bool hF.out.symm, hx.out.bel⟩
  · have hF := Lib.hid (funB_len (ns := n) hl)
    by_cases h0 : f.len < 0
    · have e0 : decide (f.len < 0) = true := decide_eq_true h0
      clear hl h0
      go_enter Try.func39, Try.ntmps39
      go_wp2_with fail
      go_ret
      exact ⟨ret_bool hF.out.symm, ((Below.refl _ _).alloc (Nat.le_refl _) _).alloc (by simp) _⟩
    · have e0 : decide (f.len < 0) = false := decide_eq_false h0
      have e1 : decide (3 < f.len) = true := decide_eq_true (by omega)
      clear hl h0
      go_enter Try.func39, Try.ntmps39
      go_wp2_with fail
      go_ret
      exact ⟨ret_bool hF.out.symm, ((Below.refl _ _).alloc (Nat.le_refl _) _).alloc (by simp) _⟩
end Go.Proofs.Ythkbekfdjfmmbaa
