/- The law TypingMakes. -/
import Derived.Test.YthkbekfdjfmmbaaZWakes06
import Derived.Test.YthkbekfdjfmmbaaZGreatG
import Derived.Test.YthkbekfdjfmmbaaZGreat5
import Derived.Test.YthkbekfdjfmmbaaZR6Make
namespace Go.Proofs.Ythkbekfdjfmmbaa
open Go.RowKit
set_option maxRecDepth 100000

set_option maxHeartbeats 8000000 in
theorem TypingMakes_any (sv fv mv tv av : Value) (g : Sg) (n : Nat) (N : Nat → Nd) (op : Int) (m : Nat) (A : Nat → Int) (f k : Int) (w : World) (hG : SgAt w sv fv mv g) (hv : NdsAt w tv n N) (h8 : R8 op) (ha : IntsAt w av m A) (hfr : R64 f) (hkr : R64 k) :
    Calls Try.prog 8 #[.agg #[sv, fv, mv], .agg #[tv], .int .i8 op, av, .int .i64 f, .int .i64 k] w fun z w' => z = .returned (.bool true) ∧ Below w.heap.size w w' := by
  have hwk := Lib.hid wakes06_any
  have hg1 := Lib.hid fun (x : World) (hb : Below w.heap.size w x) => Great_any sv fv mv g x (hG.below hb)
  have hg5 := Lib.hid fun (x : World) (hb : Below w.heap.size w x) => Great5_any tv n N x (hv.below hb)
  have hN := Lib.hid fun (hfw : FewG g) (hn : n ≤ 999999) (x : World) (hb : Below w.heap.size w x) => TMake_any sv fv mv tv av g n N op m A f k x (hG.below hb) hfw (hv.below hb) hn h8 (ha.below hb) hfr hkr
  have hRN := Lib.hid fun (hn : n ≤ 999999) (x : World) (hb : Below w.heap.size w x) => R6Make_any sv fv mv tv av g n N op m A f k x (hG.below hb) (hv.below hb) hn h8 (ha.below hb) hfr hkr
  obtain ⟨SA, c, rfl, -, -⟩ := hG.1
  obtain ⟨FA, fc, rfl, -, -⟩ := hG.2.1
  obtain ⟨MA, mc, rfl, -, -⟩ := hG.2.2
  obtain ⟨TA, tc, rfl, hcap, _, _⟩ := hv
  obtain ⟨U, cu, rfl, hm63, -, -⟩ := ha
  have hx0 := Lib.hid (toK_bx w (.slice SA g.ns c) (.slice FA g.nf fc) (.slice MA g.nm mc) (.slice TA n tc))
  obtain ⟨⟨k0, -⟩, ⟨k1, -⟩, ⟨k2, -⟩, ⟨k3, -⟩, -⟩ := hx0.out.cells
  unfold MakeP at hN hRN
  generalize makeT g n N op m A f k = p at *
  obtain ⟨e, er⟩ := p
  dsimp only at hN hRN
  unfold ndV at hN hRN
  have hen := run_eqNd
  have heq : ndEq e.op e.len e.a0 e.a1 e.a2 e.sort e.fn e.num e.op e.len e.a0 e.a1 e.a2 e.sort e.fn e.num = true := (ndEq_eq e e).trans (decide_eq_true rfl)
  clear hG h8 hfr hkr
  go_enter Try.func8, Try.ntmps8
  go_wp2_with fail
  refine (hg1.out _ hx0.out.bel).mono ?_
  rintro z w1 ⟨⟨bb, rfl, hfew⟩, hb1⟩
  have hx1 := Lib.hid (hx0.out.step hb1)
  have hfew' := Lib.hid hfew
  clear hb1 hx0 hfew hg1 k0 k1 k2 k3
  cases bb with
  | true =>
    go_wp2_with (go_at_call 21; (with_reducible refine (hwk.out _).mono ?_); rintro e w2 ⟨rfl, hb2⟩; have hx2 := Lib.hid (hx1.out.step hb2))
    go_ret
    exact ⟨rfl, hx2.out.bel⟩
  | false =>
  have hfw := Lib.hid (hfew'.out rfl)
  clear hfew'
  obtain ⟨⟨k0, -⟩, ⟨k1, -⟩, ⟨k2, -⟩, ⟨k3, -⟩, -⟩ := hx1.out.cells
  go_wp2_with fail
  refine (hg5.out _ hx1.out.bel).mono ?_
  rintro z w2 ⟨rfl, hb2⟩
  have hx2 := Lib.hid (hx1.out.step hb2)
  clear hb2 hx1 hg5 k0 k1 k2 k3
  by_cases hn3 : 300 < n
  · have d1 : decide (300 < n) = true := decide_eq_true hn3
    clear hn3
    go_wp2_with (go_at_call 21; (with_reducible refine (hwk.out _).mono ?_); rintro e w4 ⟨rfl, hb4⟩; have hx4 := Lib.hid (hx2.out.step hb4))
    go_ret
    exact ⟨rfl, hx4.out.bel⟩
  have d1 : decide (300 < n) = false := decide_eq_false hn3
  have hN' := Lib.hid (hN.out hfw.out (by omega))
  have hRN' := Lib.hid (hRN.out (by omega))
  clear hn3 hN hRN
  by_cases hm20 : 20 < m
  · have d3 : decide ((20 : Int) < (m : Int)) = true := decide_eq_true (by omega)
    clear hm20
    go_wp2_with (go_at_call 21; (with_reducible refine (hwk.out _).mono ?_); rintro e w4 ⟨rfl, hb4⟩; have hx4 := Lib.hid (hx2.out.step hb4))
    go_ret
    exact ⟨rfl, hx4.out.bel⟩
  have d3 : decide ((20 : Int) < (m : Int)) = false := decide_eq_false (by omega)
  clear hm20
  obtain ⟨⟨k0, -⟩, ⟨k1, -⟩, ⟨k2, -⟩, ⟨k3, -⟩, -⟩ := hx2.out.cells
  go_wp2_with fail
  refine (hN'.out _ hx2.out.bel).mono ?_
  rintro z w3 ⟨rfl, hb3⟩
  have hx3 := Lib.hid ((hx2.out.step hb3).row #[.int .i8 e.op, .int .i8 e.len, .int .i64 e.a0, .int .i64 e.a1, .int .i64 e.a2, .int .i64 e.sort, .int .i64 e.fn, .int .i64 e.num] 62)
  clear hb3 hx2 k0 k1 k2 k3
  obtain ⟨⟨k0, -⟩, ⟨k1, -⟩, ⟨k2, -⟩, ⟨k3, -⟩, -⟩ := hx3.out.right.cells
  go_wp2_with fail
  refine (hRN'.out _ hx3.out.bel).mono ?_
  rintro z w4 ⟨rfl, hb4⟩
  have hx4 := Lib.hid (hx3.out.step hb4)
  have hx5 := Lib.hid (hx4.out.skip (.cells #[.int .i8 e.op, .int .i8 e.len, .int .i64 e.a0, .int .i64 e.a1, .int .i64 e.a2, .int .i64 e.sort, .int .i64 e.fn, .int .i64 e.num] 62))
  clear hb4 hx3 k0 k1 k2 k3
  obtain ⟨⟨y0, -⟩, ⟨y1, -⟩, ⟨y2, -⟩, ⟨y3, -⟩, ⟨y4, -⟩, ⟨y5, -⟩, ⟨y6, -⟩, ⟨y7, -⟩, -⟩ := hx5.out.left.cells
  simp only [Nat.zero_add] at y1 y2 y3 y4 y5 y6 y7
  go_wp2_with (go_at_call 21; (with_reducible refine (hwk.out _).mono ?_); rintro e w6 ⟨rfl, hb6⟩; have hx6 := Lib.hid (hx5.out.step hb6))
  go_ret
  exact ⟨rfl, hx6.out.bel⟩
end Go.Proofs.Ythkbekfdjfmmbaa
