/- The law TypingTells. -/
import Derived.Test.YthkbekfdjfmmbaaZWakes06
import Derived.Test.YthkbekfdjfmmbaaZGreatG
import Derived.Test.YthkbekfdjfmmbaaZR6App
namespace Go.Proofs.Ythkbekfdjfmmbaa
open Go.RowKit
set_option maxRecDepth 100000

set_option maxHeartbeats 4000000 in
theorem TypingTells_any (sv fv mv v : Value) (g : Sg) (op f : Int) (m : Nat) (S : Nat → Int) (w : World) (hG : SgAt w sv fv mv g) (h8 : R8 op) (_hf : R64 f) (hv : IntsAt w v m S) (hcap : CapOk v) :
    Calls Try.prog 5 #[.agg #[sv, fv, mv], .int .i8 op, .int .i64 f, v] w fun e w' => e = .returned (.bool true) ∧ Below w.heap.size w w' := by
  have hwk := Lib.hid wakes06_any
  have hx0 := Lib.hid (sgR_bx w sv fv mv)
  have hg1 := Lib.hid fun (x : World) (hb : Below w.heap.size w x) => Great_any sv fv mv g x (hG.below hb)
  have hO := Lib.hid fun (x : World) (hb : Below w.heap.size w x) => TOp_any op v m S x h8 (hv.below hb) hcap
  have hRO := Lib.hid fun (x : World) (hb : Below w.heap.size w x) => RTOp_any op v m S x h8 (hv.below hb)
  have hA := Lib.hid fun (hfw : FewG g) (x : World) (hb : Below w.heap.size w x) => TApp_any sv fv mv g f v m S x (hG.below hb) hfw (hv.below hb)
  have hRA := Lib.hid fun (x : World) (hb : Below w.heap.size w x) => RTApp_any sv fv mv g f v m S x (hG.below hb) (hv.below hb)
  obtain ⟨A, c, rfl, -, -⟩ := hG.1
  obtain ⟨FA, fc, rfl, -, -⟩ := hG.2.1
  obtain ⟨MA, mc, rfl, -, -⟩ := hG.2.2
  obtain ⟨U, cu, rfl, hm, -, -⟩ := hv
  obtain ⟨k0, k1, k2⟩ := sgR_cells hx0.out
  unfold opV at hO hRO hA hRA
  generalize opT op m S = p at *
  generalize appT g f m S = q at *
  clear hG h8 hcap
  go_enter Try.func5, Try.ntmps5
  go_wp2_with fail
  refine (hg1.out _ hx0.out.bel).mono ?_
  rintro e w1 ⟨⟨bb, rfl, hfew⟩, hb1⟩
  have hx1 := Lib.hid (hx0.out.step hb1)
  have hfew' := Lib.hid hfew
  clear hb1 hx0 hfew hg1 k0 k1 k2
  cases bb with
  | true =>
    go_wp2_with (go_at_call 21; (with_reducible refine (hwk.out _).mono ?_); rintro e w2 ⟨rfl, hb2⟩; have hx2 := Lib.hid (hx1.out.step hb2))
    go_ret
    exact ⟨rfl, hx2.out.bel⟩
  | false =>
  have hfw := Lib.hid (hfew'.out rfl)
  clear hfew'
  by_cases hm20 : 20 < m
  · have d1 : decide ((20 : Int) < (m : Int)) = true := decide_eq_true (by omega)
    have d2 : decide (20 < m) = true := decide_eq_true hm20
    clear hm20
    go_wp2_with (go_at_call 21; (with_reducible refine (hwk.out _).mono ?_); rintro e w2 ⟨rfl, hb2⟩; have hx2 := Lib.hid (hx1.out.step hb2))
    go_ret
    exact ⟨rfl, hx2.out.bel⟩
  have d1 : decide ((20 : Int) < (m : Int)) = false := decide_eq_false (by omega)
  have d2 : decide (20 < m) = false := decide_eq_false hm20
  clear hm20
  go_wp2_with fail
  refine (hO.out _ hx1.out.bel).mono ?_
  rintro e w2 ⟨rfl, hb2⟩
  have hx2 := Lib.hid (hx1.out.step hb2)
  clear hb2 hx1
  go_wp2_with fail
  refine (hRO.out _ hx2.out.bel).mono ?_
  rintro e w3 ⟨rfl, hb3⟩
  have hx3 := Lib.hid (hx2.out.step hb3)
  clear hb3 hx2
  obtain ⟨k0, k1, k2⟩ := sgR_cells hx3.out
  go_wp2_with fail
  refine (hA.out hfw.out _ hx3.out.bel).mono ?_
  rintro e w4 ⟨rfl, hb4⟩
  have hx4 := Lib.hid (hx3.out.step hb4)
  clear hb4 hx3 k0 k1 k2
  obtain ⟨k0, k1, k2⟩ := sgR_cells hx4.out
  go_wp2_with fail
  refine (hRA.out _ hx4.out.bel).mono ?_
  rintro e w5 ⟨rfl, hb5⟩
  have hx5 := Lib.hid (hx4.out.step hb5)
  clear hb5 hx4 k0 k1 k2
  have e1 : (p.1 == p.1) = true := by simp
  have e2 : (p.2 == p.2) = true := by simp
  have e3 : (q.1 == q.1) = true := by simp
  have e4 : (q.2 == q.2) = true := by simp
  go_wp2_with (go_at_call 21; (with_reducible refine (hwk.out _).mono ?_); rintro e w6 ⟨rfl, hb6⟩; have hx6 := Lib.hid (hx5.out.step hb6))
  go_ret
  exact ⟨rfl, hx6.out.bel⟩
end Go.Proofs.Ythkbekfdjfmmbaa
