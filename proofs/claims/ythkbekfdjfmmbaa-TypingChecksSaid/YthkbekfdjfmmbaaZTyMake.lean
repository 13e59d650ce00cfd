/- typing.may, typing.Node, typing.Make. -/
import Derived.Test.YthkbekfdjfmmbaaZTyTab
import Derived.Test.YthkbekfdjfmmbaaZTermF
import Derived.Test.YthkbekfdjfmmbaaZTyKTyN
import Derived.Laws.CopyRow
import Derived.Laws.IdiomCopy
namespace Go.Proofs.Ythkbekfdjfmmbaa
open Go.RowKit
set_option maxRecDepth 100000

set_option maxHeartbeats 4000000 in
theorem Tmay_any (sv fv mv tv : Value) (g : Sg) (n : Nat) (N : Nat → Nd) (e : Nd) (w : World) (hG : SgAt w sv fv mv g) (hf : FewG g) (hv : NdsAt w tv n N) (hn : n ≤ 999999) (he : NdR e) :
    Calls Try.prog 54 #[.agg #[sv, fv, mv], .agg #[tv], ndV e] w fun z w' => z = .returned (.bool (mayT g n N e)) ∧ Below w.heap.size w w' := by
  have hG' := Lib.hid hG
  have hf' := Lib.hid hf
  obtain ⟨A, c, rfl, -, -⟩ := hG.1
  obtain ⟨FA, fc, rfl, -, -⟩ := hG.2.1
  obtain ⟨MA, mc, rfl, -, -⟩ := hG.2.2
  have hv' := Lib.hid hv
  have he' := Lib.hid he
  obtain ⟨TA, tc, rfl, hcap, _, _⟩ := hv
  have hx := Lib.hid (sgK_bx w (.slice A g.ns c) (.slice FA g.nf fc) (.slice MA g.nm mc) (.slice TA n tc) e)
  have hC := Lib.hid (SCheck_any _ _ _ g _ (hG'.out.below hx.out.bel) hf'.out)
  have hR : Hid (mayT g n N e = (checkG g && (checkB n N && standsB e n))) := rfl
  clear hG hf he
  unfold ndV
  go_enter Try.func54, Try.ntmps54
  cases hk : checkG g with
  | false =>
    have hR2 : Hid (mayT g n N e = false) := by unfold Hid; rw [hR.out, hk]; rfl
    rw [hk] at hC
    go_wp2_with fail
    refine hC.out.mono ?_
    rintro z w1 ⟨rfl, hb1⟩
    have hx1 := Lib.hid (hx.out.step hb1)
    unfold chV
    go_wp2_with fail
    go_ret
    exact ⟨by rw [hR2.out]; rfl, hx1.out.bel⟩
  | true =>
    have hR2 : Hid (mayT g n N e = (checkB n N && standsB e n)) := by unfold Hid; rw [hR.out, hk]; rfl
    rw [hk] at hC
    clear hk
    unfold chV at hC
    go_wp2_with fail
    refine hC.out.mono ?_
    rintro z w1 ⟨rfl, hb1⟩
    have hx1 := Lib.hid (hx.out.step hb1)
    obtain ⟨k0, k1, k2, k3, k4, k5, k6, k7, k8, -, -, -⟩ := sgK_cells hx1.out
    have hP := Lib.hid (Put_any _ n N e ((n : Int) + 1) w1 (hv'.out.below hx1.out.bel) (by omega) he'.out (by unfold R64; omega))
    unfold ndV at hP
    clear hb1
    go_wp2_with fail
    refine hP.out.mono ?_
    rintro z w2 ⟨v2, m, M, at_, er, rfl, hPR, hN2, hb2⟩
    have hx2 := Lib.hid (hx1.out.step hb2)
    have hq := Lib.hid (put_may hPR)
    obtain ⟨_, _, rfl, _, _, _⟩ := hN2
    clear hPR hb2 k0 k1 k2 k3 k4 k5 k6 k7 k8
    go_wp2_with fail
    go_ret
    exact ⟨by rw [hR2.out, ← hq.out]; rfl, (hx2.out.skip _).bel⟩
set_option maxHeartbeats 4000000 in
theorem TNode_any (sv fv mv tv : Value) (g : Sg) (n : Nat) (N : Nat → Nd) (e : Nd) (w : World) (hG : SgAt w sv fv mv g) (hf : FewG g) (hv : NdsAt w tv n N) (hn : n ≤ 999999) (he : NdR e) :
    Calls Try.prog 27 #[.agg #[sv, fv, mv], .agg #[tv], ndV e] w fun z w' => z = .returned (.int .i64 (nodeE g n N e)) ∧ Below w.heap.size w w' := by
  have hG' := Lib.hid hG
  have hf' := Lib.hid hf
  obtain ⟨A, c, rfl, -, -⟩ := hG.1
  obtain ⟨FA, fc, rfl, -, -⟩ := hG.2.1
  obtain ⟨MA, mc, rfl, -, -⟩ := hG.2.2
  have hv' := Lib.hid hv
  have he' := Lib.hid he
  obtain ⟨TA, tc, rfl, hcap, _, _⟩ := hv
  have hx := Lib.hid (sgK_bx w (.slice A g.ns c) (.slice FA g.nf fc) (.slice MA g.nm mc) (.slice TA n tc) e)
  have hM := Lib.hid (Tmay_any _ _ _ _ g n N e _ (hG'.out.below hx.out.bel) hf'.out (hv'.out.below hx.out.bel) hn he)
  have hR : Hid (nodeE g n N e = if mayT g n N e = false then 2 else if okNd g N e = true then 0 else 33) := rfl
  have hmi := Lib.hid fun h => may_in (g := g) (n := n) (N := N) he h
  unfold ndV at hM
  clear hG hf he
  unfold ndV
  go_enter Try.func27, Try.ntmps27
  go_wp2_with fail
  refine hM.out.mono ?_
  rintro z w1 ⟨rfl, hb1⟩
  have hx1 := Lib.hid (hx.out.step hb1)
  clear hb1
  cases hk : mayT g n N e with
  | false =>
    have hR2 : Hid (nodeE g n N e = 2) := by unfold Hid; rw [hR.out, hk]; rfl
    clear hk
    go_wp2_with fail
    go_ret
    exact ⟨by rw [hR2.out]; rfl, hx1.out.bel⟩
  | true =>
    have hR2 : Hid (nodeE g n N e = if okNd g N e = true then 0 else 33) := by unfold Hid; rw [hR.out, hk]; rfl
    have hin := Lib.hid (hmi.out hk)
    have hS := Lib.hid (TSort_any _ _ _ _ g n N e w1 (hG'.out.below hx1.out.bel) hf'.out (hv'.out.below hx1.out.bel) hin.out)
    unfold ndV at hS
    clear hk
    obtain ⟨k0, k1, k2, k3, k4, k5, k6, k7, k8, k9, k10, k11⟩ := sgK_cells hx1.out
    go_wp2_with fail
    refine hS.out.mono ?_
    rintro z w2 ⟨rfl, hb2⟩
    have hx2 := Lib.hid (hx1.out.step hb2)
    have hok : Hid (okNd g N e = (((nodeT g N e).2 == 0) && ((nodeT g N e).1 == e.sort))) := rfl
    unfold sortV
    clear hb2 k0 k1 k2 k3 k4 k5 k6 k7 k8 k9 k10 k11
    obtain ⟨-, -, -, -, -, k5, -⟩ := sgK_cells hx2.out
    generalize nodeT g N e = pp at *
    obtain ⟨ps, pe⟩ := pp
    dsimp only at hok
    cases h1 : pe == 0 with
    | true =>
      cases h2 : ps == e.sort with
      | true =>
        have h3 : (ps != e.sort) = false := by rw [bne, h2]; rfl
        have hy : Hid (nodeE g n N e = 0) := by unfold Hid; rw [hR2.out, hok.out, h1, h2]; rfl
        go_wp2_with fail
        go_ret
        exact ⟨by rw [hy.out]; rfl, hx2.out.bel⟩
      | false =>
        have h3 : (ps != e.sort) = true := by rw [bne, h2]; rfl
        have hy : Hid (nodeE g n N e = 33) := by unfold Hid; rw [hR2.out, hok.out, h1, h2]; rfl
        go_wp2_with fail
        go_ret
        exact ⟨by rw [hy.out]; rfl, hx2.out.bel⟩
    | false =>
      have hy : Hid (nodeE g n N e = 33) := by unfold Hid; rw [hR2.out, hok.out, h1]; rfl
      go_wp2_with fail
      go_ret
      exact ⟨by rw [hy.out]; rfl, hx2.out.bel⟩
end Go.Proofs.Ythkbekfdjfmmbaa
