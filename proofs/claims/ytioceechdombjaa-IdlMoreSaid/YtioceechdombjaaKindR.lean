/- gantryref13.Kind, at a Bool node: whether it is a difference. -/
import Derived.Test.YtioceechdombjaaIdlL
import Derived.Test.YtioceechdombjaaBoxes
namespace Go.Proofs.Ytioceechdombjaa
open Go.RowKit Go.Maps
set_option maxRecDepth 100000

theorem op_vals {e : Nd} {at_ : Int} (h : StandsP e at_) : e.op = 0 ∨ e.op = 1 ∨ e.op = 2 ∨ e.op = 3 ∨ e.op = 4 ∨ e.op = 5 ∨ e.op = 6 ∨ e.op = 7 ∨ e.op = 8 ∨ e.op = 9 ∨ e.op = 10 ∨ e.op = 11 ∨ e.op = 12 ∨ e.op = 13 := by
  have hk := h.kind
  unfold ar at hk
  omega

set_option maxHeartbeats 8000000 in
theorem RKind_any (v : Value) (n i : Nat) (N : Nat → Nd) (w : World) (hv : NdsAt w v n N) (hn : n ≤ 1000000) (hch : CheckP n N) (hi : i < n) (hs : (N i).sort = 0) :
    Calls Try.prog 19 #[.agg #[v], .int .i64 i] w fun e w' => ∃ k : Int, e = .returned (.int .i8 k) ∧ (k = 6 ↔ (N i).op = 12) ∧ Below w.heap.size w w' := by
  have hv' := Lib.hid hv
  have hst := Lib.hid (hch.all i hi)
  have hsn : Hid (sortN n N (i : Int) = 0) := (sortN_in hi).trans hs
  obtain ⟨A, c, rfl, _, hrg, hcs⟩ := hv
  obtain ⟨b, o, rfl, hbl, hcs⟩ := hcs (by omega)
  have hcs' := Lib.hid hcs
  have ha0 := Lib.hid (hrg i hi).a0
  have hx0 := (Bx.nil w).one (.slice (some ⟨b, o, none⟩) n c) 33
  have i1 : (i : Int) < (n : Int) := by omega
  clear hcs hch hrg
  have hop := op_vals hst.out
  by_cases h6 : (N i).op = 6
  · clear hop
    go_enter Try.func19, Try.ntmps19
    go_wp2_with fail
    refine (Rsort_any _ n N (i : Int) _ (hv'.out.below hx0.bel) hn ⟨by omega, by omega⟩).mono ?_
    rintro e w2 ⟨rfl, hb2⟩
    rw [hsn.out]
    have hx2 := hx0.step hb2
    obtain ⟨⟨q0, _⟩, -⟩ := hx2.cells
    obtain ⟨e0, e1, e2, e3, e4, e5, e6, e7⟩ := (hcs'.out i hi).below hx2.bel hbl
    rw [h6] at e0
    have hx3 := Lib.hid (hx2.skip (.cells #[.int .i8 6, .int .i8 (N i).len, .int .i64 (N i).a0, .int .i64 (N i).a1, .int .i64 (N i).a2, .int .i64 0, .int .i64 (N i).fn, .int .i64 (N i).num] 72))
    clear hb2 hx0 hx2
    have hn' := Lib.hid hn
    go_wp2_with fail
    refine (Rsort_any _ n N (N i).a0 _ (hv'.out.below hx3.out.bel) hn'.out ha0.out).mono ?_
    rintro e w4 ⟨rfl, hb4⟩
    have hbw := hx3.out.bel.trans (hb4.mono hx3.out.bel.size)
    generalize sortN n N (N i).a0 = s at *
    have h12 : Hid (¬ (N i).op = 12) := by unfold Hid; omega
    by_cases s0 : s = 0
    · subst s0
      go_wp2
      go_ret
      exact ⟨_, rfl, ⟨fun h => by omega, fun h => absurd h h12.out⟩, hbw⟩
    · by_cases s1 : s = 1
      · subst s1
        go_wp2
        go_ret
        exact ⟨_, rfl, ⟨fun h => by omega, fun h => absurd h h12.out⟩, hbw⟩
      · have d0 : (s == 0) = false := by simpa using s0
        have d1 : (s == 1) = false := by simpa using s1
        by_cases s2 : 2 ≤ s
        · have d2 : decide (2 ≤ s) = true := decide_eq_true s2
          go_wp2
          go_ret
          exact ⟨_, rfl, ⟨fun h => by omega, fun h => absurd h h12.out⟩, hbw⟩
        · have d2 : decide (2 ≤ s) = false := decide_eq_false s2
          go_wp2
          go_ret
          exact ⟨_, rfl, ⟨fun h => by omega, fun h => absurd h h12.out⟩, hbw⟩
  · have hop' : (N i).op = 0 ∨ (N i).op = 1 ∨ (N i).op = 2 ∨ (N i).op = 3 ∨ (N i).op = 4 ∨ (N i).op = 5 ∨ (N i).op = 7 ∨ (N i).op = 8 ∨ (N i).op = 9 ∨ (N i).op = 10 ∨ (N i).op = 11 ∨ (N i).op = 12 ∨ (N i).op = 13 := by omega
    clear hop h6
    go_enter Try.func19, Try.ntmps19
    go_wp2_with fail
    refine (Rsort_any _ n N (i : Int) _ (hv'.out.below hx0.bel) hn ⟨by omega, by omega⟩).mono ?_
    rintro e w2 ⟨rfl, hb2⟩
    rw [hsn.out]
    have hx2 := hx0.step hb2
    obtain ⟨⟨q0, _⟩, -⟩ := hx2.cells
    obtain ⟨e0, e1, e2, e3, e4, e5, e6, e7⟩ := (hcs'.out i hi).below hx2.bel hbl
    have hbw := hx2.bel.alloc hx2.bel.size
    clear hb2 hx0 hx2
    rcases hop' with h | h | h | h | h | h | h | h | h | h | h | h | h
    all_goals
      have h12 := Lib.hid h
      rw [h] at e0
      clear h
      go_wp2
      go_ret
      exact ⟨_, rfl, ⟨fun h => by have := h12.out; omega, fun h => by have := h12.out; omega⟩, hbw _⟩
theorem RKindI_any (v : Value) (n : Nat) (id : Int) (N : Nat → Nd) (w : World) (hv : NdsAt w v n N) (hn : n ≤ 1000000) (hch : CheckP n N) (h0 : 0 ≤ id) (h1 : id.toNat < n) (hs : (N id.toNat).sort = 0) :
    Calls Try.prog 19 #[.agg #[v], .int .i64 id] w fun e w' => ∃ k : Int, e = .returned (.int .i8 k) ∧ (k = 6 ↔ (N id.toNat).op = 12) ∧ Below w.heap.size w w' := by
  have h := RKind_any v n id.toNat N w hv hn hch h1 hs
  rwa [show ((id.toNat : Nat) : Int) = id by omega] at h
end Go.Proofs.Ytioceechdombjaa
