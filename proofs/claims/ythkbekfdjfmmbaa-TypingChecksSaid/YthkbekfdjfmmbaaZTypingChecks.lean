/- The law TypingChecks. -/
import Derived.Test.YthkbekfdjfmmbaaZWakes06
import Derived.Test.YthkbekfdjfmmbaaZGreatG
import Derived.Test.YthkbekfdjfmmbaaZGreat5
import Derived.Test.YthkbekfdjfmmbaaZR6RuleR6TabR6TabB
import Derived.Test.YthkbekfdjfmmbaaZTyMake
namespace Go.Proofs.Ythkbekfdjfmmbaa
open Go.RowKit
set_option maxRecDepth 100000

set_option maxHeartbeats 8000000 in
theorem TypingChecks_any (sv fv mv tv : Value) (g : Sg) (n : Nat) (N : Nat → Nd) (e : Nd) (w : World) (hG : SgAt w sv fv mv g) (hv : NdsAt w tv n N) (he : NdR e) :
    Calls Try.prog 7 #[.agg #[sv, fv, mv], .agg #[tv], ndV e] w fun z w' => z = .returned (.bool true) ∧ Below w.heap.size w w' := by
  have hwk := Lib.hid wakes06_any
  have hg1 := Lib.hid fun (x : World) (hb : Below w.heap.size w x) => Great_any sv fv mv g x (hG.below hb)
  have hg5 := Lib.hid fun (x : World) (hb : Below w.heap.size w x) => Great5_any tv n N x (hv.below hb)
  have hN := Lib.hid fun (hfw : FewG g) (hn : n ≤ 999999) (x : World) (hb : Below w.heap.size w x) => TNode_any sv fv mv tv g n N e x (hG.below hb) hfw (hv.below hb) hn he
  have hRN := Lib.hid fun (hn : n ≤ 999999) (x : World) (hb : Below w.heap.size w x) => R6Node_any sv fv mv tv g n N e x (hG.below hb) (hv.below hb) hn he
  have hT := Lib.hid fun (hfw : FewG g) (hn : n ≤ 1000000) (x : World) (hb : Below w.heap.size w x) => TTable_any sv fv mv tv g n N x (hG.below hb) hfw (hv.below hb) hn
  have hRT := Lib.hid fun (hn : n ≤ 1000000) (x : World) (hb : Below w.heap.size w x) => R6Table_any sv fv mv tv g n N x (hG.below hb) (hv.below hb) hn
  obtain ⟨A, c, rfl, -, -⟩ := hG.1
  obtain ⟨FA, fc, rfl, -, -⟩ := hG.2.1
  obtain ⟨MA, mc, rfl, -, -⟩ := hG.2.2
  obtain ⟨TA, tc, rfl, hcap, _, _⟩ := hv
  have hx0 := Lib.hid (sgK_bx w (.slice A g.ns c) (.slice FA g.nf fc) (.slice MA g.nm mc) (.slice TA n tc) e)
  obtain ⟨k0, k1, k2, k3, k4, k5, k6, k7, k8, k9, k10, k11⟩ := sgK_cells hx0.out
  unfold ndV at hN hRN
  unfold ndV
  generalize nodeE g n N e = p at *
  generalize tabT g n N = q at *
  clear hG he
  go_enter Try.func7, Try.ntmps7
  go_wp2_with fail
  refine (hg1.out _ hx0.out.bel).mono ?_
  rintro z w1 ⟨⟨bb, rfl, hfew⟩, hb1⟩
  have hx1 := Lib.hid (hx0.out.step hb1)
  have hfew' := Lib.hid hfew
  clear hb1 hx0 hfew hg1 k0 k1 k2 k3 k4 k5 k6 k7 k8 k9 k10 k11
  cases bb with
  | true =>
    go_wp2_with (go_at_call 21; (with_reducible refine (hwk.out _).mono ?_); rintro e w2 ⟨rfl, hb2⟩; have hx2 := Lib.hid (hx1.out.step hb2))
    go_ret
    exact ⟨rfl, hx2.out.bel⟩
  | false =>
  have hfw := Lib.hid (hfew'.out rfl)
  clear hfew'
  obtain ⟨k0, k1, k2, k3, k4, k5, k6, k7, k8, k9, k10, k11⟩ := sgK_cells hx1.out
  go_wp2_with fail
  refine (hg5.out _ hx1.out.bel).mono ?_
  rintro z w2 ⟨rfl, hb2⟩
  have hx2 := Lib.hid (hx1.out.step hb2)
  clear hb2 hx1 hg5 k0 k1 k2 k3 k4 k5 k6 k7 k8 k9 k10 k11
  by_cases hn3 : 300 < n
  · have d1 : decide (300 < n) = true := decide_eq_true hn3
    clear hn3
    go_wp2_with (go_at_call 21; (with_reducible refine (hwk.out _).mono ?_); rintro e w4 ⟨rfl, hb4⟩; have hx4 := Lib.hid (hx2.out.step hb4))
    go_ret
    exact ⟨rfl, hx4.out.bel⟩
  have d1 : decide (300 < n) = false := decide_eq_false hn3
  have hN' := Lib.hid (hN.out hfw.out (by omega))
  have hRN' := Lib.hid (hRN.out (by omega))
  have hT' := Lib.hid (hT.out hfw.out (by omega))
  have hRT' := Lib.hid (hRT.out (by omega))
  have hK := Lib.hid fun (x : World) (h : Bx w (sgK w (.slice A g.ns c) (.slice FA g.nf fc) (.slice MA g.nm mc) (.slice TA n tc) e) x) => sgK_cells h
  clear hn3 hN hRN hT hRT
  go_upto_region 3 with fail
  refine region_cls (fun x => Bx w (sgK w (.slice A g.ns c) (.slice FA g.nf fc) (.slice MA g.nm mc) (.slice TA n tc) e) x) (by kernel_rfl) (by kernel_rfl) hx2.out.drew ?_
  repeat (first
    | go_big_quiet_skip
    | (go_big_quiet_want; first
      | (go_big_quiet_op; go_big_quiet_on)
      | (unfold Oper.quiet; apply Exists.intro; refine ⟨fun x hx => ?_, ?_⟩; (obtain ⟨c0, c1, c2, c3, c4, c5, c6, c7, c8, c9, c10, c11⟩ := hK.out x hx; unfold Oper.quietAt; first
          | (go_simp; exact ⟨rfl, rfl⟩)
          | (go_simp; exact rfl)
          | (go_simp; done)
          | (go_simp; go_at_call 27; refine (hN'.out x hx.bel).mono ?_; rintro e w' ⟨rfl, hb'⟩; exact ⟨rfl, hx.step hb'⟩)
          | (go_simp; go_at_call 28; refine (hRN'.out x hx.bel).mono ?_; rintro e w' ⟨rfl, hb'⟩; exact ⟨rfl, hx.step hb'⟩)
          | (go_simp; go_at_call 29; refine (hT'.out x hx.bel).mono ?_; rintro e w' ⟨rfl, hb'⟩; exact ⟨rfl, hx.step hb'⟩)
          | (go_simp; go_at_call 30; refine (hRT'.out x hx.bel).mono ?_; rintro e w' ⟨rfl, hb'⟩; exact ⟨rfl, hx.step hb'⟩)
          | (go_simp; go_at_call 21; refine (hwk.out x).mono ?_; rintro e w' ⟨rfl, hb'⟩; exact ⟨rfl, hx.step hb'⟩)
          | fail); go_simp; go_big_quiet_on)))
  refine wpQuiet_nil ?_
  rintro w6 hx6
  have hb6 := Lib.hid hx6.bel
  clear hx6
  go_wp2_with fail
  go_ret
  exact ⟨rfl, hb6.out⟩
end Go.Proofs.Ythkbekfdjfmmbaa
