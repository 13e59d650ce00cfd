/- gantryref10.bit, value. -/
import Derived.Test.YtecmoahadckomaaGreatZEvPEvQEvAt
import Derived.Test.YtecmoahadckomaaGreatZR9AppR9Apply
import Derived.WalkLawsBesides
import Derived.IntWalk
namespace Go.Proofs.YtecmoahadckomaaGreat
open Go.RowKit
set_option maxRecDepth 100000

theorem RBit_any (b : Bool) (w : World) : Calls Tryz.prog 33 #[.bool b] w fun e w' => e = .returned (.int .i64 (bI b)) ∧ w' = w := by
  cases b with
  | true =>
    go_enter Tryz.func33, Tryz.ntmps33
    go_wp2
    go_ret
    exact ⟨rfl, rfl⟩
  | false =>
    go_enter Tryz.func33, Tryz.ntmps33
    go_wp2
    go_ret
    exact ⟨rfl, rfl⟩
theorem quiet_add_same {P : Program} {f : FuncId} {args : Array Value} {w : World} {a n : Nat} {v : Value}
    (h : Calls P f args (w.drewN (a + n)) fun e w' => e = .returned v ∧ w' = w.drewN (a + n)) : Calls P f args (w.drewN (a + n)) fun e w'' => e = .returned v ∧ ∃ m, w'' = w.drewN (a + m) :=
  h.mono fun _ _ ⟨he, hm⟩ => ⟨he, n, hm⟩
theorem half2 (a : Int) : 2 * a.tdiv 2 ≤ a + 1 ∧ a - 1 ≤ 2 * a.tdiv 2 := by
  have h1 := Int.mul_tdiv_add_tmod a 2
  have h2 := Int.tmod_lt_of_pos a (show (0 : Int) < 2 by decide)
  have h3 := Int.lt_tmod_of_pos a (show (0 : Int) < 2 by decide)
  omega
def farB (a b : Int) : Bool := decide (2305843009213693953 < a.tdiv 2 + b.tdiv 2) || decide (a.tdiv 2 + b.tdiv 2 < -2305843009213693953)
/-- What value answers: where it overflows, the number is not asked. -/
def refT (g : Sg) (W : Wd) (e : Nd) (m : Nat) (V : Nat → Int) : Int × Bool := if e.op = 11 then (if farB (V 0) e.num then (0, false) else (V 0 + e.num, mayB (V 0 + e.num))) else wayT g W e m V
theorem far_no {a b : Int} (h : farB a b = true) : mayB (a + b) = false := by
  have h1 := half2 a
  have h2 := half2 b
  unfold farB at h
  simp only [Bool.or_eq_true, decide_eq_true_eq] at h
  exact mayB_false (by omega)
theorem refT_ok (g : Sg) (W : Wd) (e : Nd) (m : Nat) (V : Nat → Int) (h : e.op = 11 → mayB (V 0) = true ∧ mayB e.num = true) : (refT g W e m V).2 = (wayT g W e m V).2 ∧ ((wayT g W e m V).2 = true → (refT g W e m V).1 = (wayT g W e m V).1) := by
  unfold refT
  by_cases h11 : e.op = 11
  · obtain ⟨ha, hb⟩ := h h11
    have hw : wayT g W e m V = if mayB (V 0 + e.num) = true then (V 0 + e.num, true) else (0, false) := by
      unfold wayT
      rw [h11]
      simp only [if_true, show ¬ ((11 : Int) = 0) by decide, show ¬ ((11 : Int) = 1) by decide, show ¬ ((11 : Int) = 2) by decide, show ¬ ((11 : Int) = 3) by decide, show ¬ ((11 : Int) = 4) by decide, show ¬ ((11 : Int) = 5) by decide, show ¬ ((11 : Int) = 6) by decide, show ¬ ((11 : Int) = 7) by decide, show ¬ ((11 : Int) = 8) by decide, show ¬ ((11 : Int) = 9) by decide, show ¬ ((11 : Int) = 10) by decide, if_false]
      unfold addOk
      rw [ha, hb, Bool.true_and, Bool.true_and]
    rw [if_pos h11, hw]
    cases hf : farB (V 0) e.num with
    | true => rw [far_no hf]; exact ⟨rfl, fun h => by cases h⟩
    | false =>
      cases hm : mayB (V 0 + e.num) with
      | true => exact ⟨rfl, fun _ => rfl⟩
      | false => exact ⟨rfl, fun h => by cases h⟩
  · rw [if_neg h11]
    exact ⟨rfl, fun _ => rfl⟩
def vbK (w : World) (sv fv mv zv wv : Value) (e : Nd) : List (Nat × Nat × Value) := rowK (w.heap.size + 2) [.int .i8 e.op, .int .i8 e.len, .int .i64 e.a0, .int .i64 e.a1, .int .i64 e.a2, .int .i64 e.sort, .int .i64 e.fn, .int .i64 e.num] 0 ++ isK w sv fv mv zv wv
theorem vbK_bx (w : World) (sv fv mv zv wv : Value) (e : Nd) : Bx w (vbK w sv fv mv zv wv e) (((w.alloc (.cells #[sv, fv, mv] 26)).alloc (.cells #[zv, wv] 30)).alloc (.cells #[.int .i8 e.op, .int .i8 e.len, .int .i64 e.a0, .int .i64 e.a1, .int .i64 e.a2, .int .i64 e.sort, .int .i64 e.fn, .int .i64 e.num] 47)) := by
  have h := (isK_bx w sv fv mv zv wv).row #[.int .i8 e.op, .int .i8 e.len, .int .i64 e.a0, .int .i64 e.a1, .int .i64 e.a2, .int .i64 e.sort, .int .i64 e.fn, .int .i64 e.num] 47
  simp only [World.size_alloc] at h
  exact h
def RValP (r : Int × Bool) (w : World) (z : Ending) (w' : World) : Prop := z = .returned (.tuple #[.int .i64 r.1, .bool r.2]) ∧ Below w.heap.size w w'
set_option maxHeartbeats 4000000 in
theorem RVal_0 (U : Option Addr) (a0 a1 a2 sort fn num : Int) (ucc : Nat) (sv fv mv zv wv : Value) (g : Sg) (W : Wd) (V : Nat → Int) (w : World) (_hnum : R64 num) (_hV : IntsAt w (.slice U 0 ucc) 0 V) :
    Calls Tryz.prog 17 #[.agg #[sv, fv, mv], .agg #[zv, wv], .agg #[.int .i8 0, .int .i8 0, .int .i64 a0, .int .i64 a1, .int .i64 a2, .int .i64 sort, .int .i64 fn, .int .i64 num], .slice U 0 ucc] w (RValP (refT g W ⟨0, 0, a0, a1, a2, sort, fn, num⟩ 0 V) w) := by
  have hx := Lib.hid (vbK_bx w sv fv mv zv wv ⟨0, 0, a0, a1, a2, sort, fn, num⟩)
  have hb := Lib.hid hx.out.bel
  have hF : Hid (refT g W ⟨0, 0, a0, a1, a2, sort, fn, num⟩ 0 V = (1, true)) := rfl
  go_enter Tryz.func17, Tryz.ntmps17
  go_wp2_with fail
  exact bodyPost_ret (results_tmp2 rfl _ _ _) rfl ⟨by rw [hF.out]; rfl, hb.out⟩
set_option maxHeartbeats 4000000 in
theorem RVal_1 (U : Option Addr) (a0 a1 a2 sort fn num : Int) (ucc : Nat) (sv fv mv zv wv : Value) (g : Sg) (W : Wd) (V : Nat → Int) (w : World) (_hnum : R64 num) (hV : IntsAt w (.slice U 1 ucc) 1 V) (h0 : V 0 = 0 ∨ V 0 = 1) :
    Calls Tryz.prog 17 #[.agg #[sv, fv, mv], .agg #[zv, wv], .agg #[.int .i8 1, .int .i8 1, .int .i64 a0, .int .i64 a1, .int .i64 a2, .int .i64 sort, .int .i64 fn, .int .i64 num], .slice U 1 ucc] w (RValP (refT g W ⟨1, 1, a0, a1, a2, sort, fn, num⟩ 1 V) w) := by
  have hx := Lib.hid (vbK_bx w sv fv mv zv wv ⟨1, 1, a0, a1, a2, sort, fn, num⟩)
  have hb := Lib.hid hx.out.bel
  have hV' := Lib.hid (hV.below hx.out.bel)
  obtain ⟨_, _, e, _, hVR, hVc⟩ := hV'.out
  injection e with e1 _ e3
  subst e1; subst e3
  obtain ⟨b, o, rfl, hbl, hc⟩ := hVc (by omega)
  have r0 := hc 0 (by omega)
  obtain ⟨l0, u0⟩ := hVR 0 (by omega)
  rw [Nat.add_zero] at r0
  clear hc hVc hVR hV
  have hF : Hid (refT g W ⟨1, 1, a0, a1, a2, sort, fn, num⟩ 1 V = (1 - V 0, true)) := rfl
  have g0 : 0 ≤ V 0 := by omega
  have g1 : V 0 ≤ 1 := by omega
  clear h0
  go_enter Tryz.func17, Tryz.ntmps17
  go_wp2_with fail
  exact bodyPost_ret (results_tmp2 rfl _ _ _) rfl ⟨by rw [hF.out]; rfl, hb.out⟩
set_option maxHeartbeats 4000000 in
theorem RVal_2 (U : Option Addr) (a0 a1 a2 sort fn num : Int) (ucc : Nat) (sv fv mv zv wv : Value) (g : Sg) (W : Wd) (V : Nat → Int) (w : World) (_hnum : R64 num) (hV : IntsAt w (.slice U 2 ucc) 2 V) (h0 : V 0 = 0 ∨ V 0 = 1) (h1 : V 1 = 0 ∨ V 1 = 1) :
    Calls Tryz.prog 17 #[.agg #[sv, fv, mv], .agg #[zv, wv], .agg #[.int .i8 2, .int .i8 2, .int .i64 a0, .int .i64 a1, .int .i64 a2, .int .i64 sort, .int .i64 fn, .int .i64 num], .slice U 2 ucc] w (RValP (refT g W ⟨2, 2, a0, a1, a2, sort, fn, num⟩ 2 V) w) := by
  have hx := Lib.hid (vbK_bx w sv fv mv zv wv ⟨2, 2, a0, a1, a2, sort, fn, num⟩)
  have hb := Lib.hid hx.out.bel
  have hV' := Lib.hid (hV.below hx.out.bel)
  obtain ⟨_, _, e, _, hVR, hVc⟩ := hV'.out
  injection e with e1 _ e3
  subst e1; subst e3
  obtain ⟨b, o, rfl, hbl, hc⟩ := hVc (by omega)
  have r0 := hc 0 (by omega)
  obtain ⟨l0, u0⟩ := hVR 0 (by omega)
  have r1 := hc 1 (by omega)
  obtain ⟨l1, u1⟩ := hVR 1 (by omega)
  rw [Nat.add_zero] at r0
  clear hc hVc hVR hV
  rcases h0 with h0 | h0 <;> rcases h1 with h1 | h1
  all_goals rw [h0] at r0
  all_goals rw [h1] at r1
  · have hF : Hid (refT g W ⟨2, 2, a0, a1, a2, sort, fn, num⟩ 2 V = (0, true)) := by unfold Hid refT wayT; rw [h0, h1]; rfl
    clear h0 h1
    go_enter Tryz.func17, Tryz.ntmps17
    go_wp2_with fail
    go_quiet (fail)
    go_wp2_with fail
    exact bodyPost_ret (results_tmp2 rfl _ _ _) rfl ⟨by rw [hF.out]; rfl, (below_drewN hb.out _)⟩
  · have hF : Hid (refT g W ⟨2, 2, a0, a1, a2, sort, fn, num⟩ 2 V = (0, true)) := by unfold Hid refT wayT; rw [h0, h1]; rfl
    clear h0 h1
    go_enter Tryz.func17, Tryz.ntmps17
    go_wp2_with fail
    go_quiet (fail)
    go_wp2_with fail
    exact bodyPost_ret (results_tmp2 rfl _ _ _) rfl ⟨by rw [hF.out]; rfl, (below_drewN hb.out _)⟩
  · have hF : Hid (refT g W ⟨2, 2, a0, a1, a2, sort, fn, num⟩ 2 V = (0, true)) := by unfold Hid refT wayT; rw [h0, h1]; rfl
    clear h0 h1
    go_enter Tryz.func17, Tryz.ntmps17
    go_wp2_with fail
    go_quiet (fail)
    go_wp2_with fail
    exact bodyPost_ret (results_tmp2 rfl _ _ _) rfl ⟨by rw [hF.out]; rfl, (below_drewN hb.out _)⟩
  · have hF : Hid (refT g W ⟨2, 2, a0, a1, a2, sort, fn, num⟩ 2 V = (1, true)) := by unfold Hid refT wayT; rw [h0, h1]; rfl
    clear h0 h1
    go_enter Tryz.func17, Tryz.ntmps17
    go_wp2_with fail
    go_quiet (fail)
    go_wp2_with fail
    exact bodyPost_ret (results_tmp2 rfl _ _ _) rfl ⟨by rw [hF.out]; rfl, (below_drewN hb.out _)⟩
set_option maxHeartbeats 4000000 in
theorem RVal_3 (U : Option Addr) (a0 a1 a2 sort fn num : Int) (ucc : Nat) (sv fv mv zv wv : Value) (g : Sg) (W : Wd) (V : Nat → Int) (w : World) (_hnum : R64 num) (hV : IntsAt w (.slice U 2 ucc) 2 V) (h0 : V 0 = 0 ∨ V 0 = 1) (h1 : V 1 = 0 ∨ V 1 = 1) :
    Calls Tryz.prog 17 #[.agg #[sv, fv, mv], .agg #[zv, wv], .agg #[.int .i8 3, .int .i8 2, .int .i64 a0, .int .i64 a1, .int .i64 a2, .int .i64 sort, .int .i64 fn, .int .i64 num], .slice U 2 ucc] w (RValP (refT g W ⟨3, 2, a0, a1, a2, sort, fn, num⟩ 2 V) w) := by
  have hx := Lib.hid (vbK_bx w sv fv mv zv wv ⟨3, 2, a0, a1, a2, sort, fn, num⟩)
  have hb := Lib.hid hx.out.bel
  have hV' := Lib.hid (hV.below hx.out.bel)
  obtain ⟨_, _, e, _, hVR, hVc⟩ := hV'.out
  injection e with e1 _ e3
  subst e1; subst e3
  obtain ⟨b, o, rfl, hbl, hc⟩ := hVc (by omega)
  have r0 := hc 0 (by omega)
  obtain ⟨l0, u0⟩ := hVR 0 (by omega)
  have r1 := hc 1 (by omega)
  obtain ⟨l1, u1⟩ := hVR 1 (by omega)
  rw [Nat.add_zero] at r0
  clear hc hVc hVR hV
  rcases h0 with h0 | h0 <;> rcases h1 with h1 | h1
  all_goals rw [h0] at r0
  all_goals rw [h1] at r1
  · have hF : Hid (refT g W ⟨3, 2, a0, a1, a2, sort, fn, num⟩ 2 V = (0, true)) := by unfold Hid refT wayT; rw [h0, h1]; rfl
    clear h0 h1
    go_enter Tryz.func17, Tryz.ntmps17
    go_wp2_with fail
    go_region
    all_goals go_wp2_with fail
    all_goals exact bodyPost_ret (results_tmp2 rfl _ _ _) rfl ⟨by rw [hF.out]; rfl, hb.out.drew⟩
  · have hF : Hid (refT g W ⟨3, 2, a0, a1, a2, sort, fn, num⟩ 2 V = (1, true)) := by unfold Hid refT wayT; rw [h0, h1]; rfl
    clear h0 h1
    go_enter Tryz.func17, Tryz.ntmps17
    go_wp2_with fail
    go_region
    all_goals go_wp2_with fail
    all_goals exact bodyPost_ret (results_tmp2 rfl _ _ _) rfl ⟨by rw [hF.out]; rfl, hb.out.drew⟩
  · have hF : Hid (refT g W ⟨3, 2, a0, a1, a2, sort, fn, num⟩ 2 V = (1, true)) := by unfold Hid refT wayT; rw [h0, h1]; rfl
    clear h0 h1
    go_enter Tryz.func17, Tryz.ntmps17
    go_wp2_with fail
    go_region
    all_goals go_wp2_with fail
    all_goals exact bodyPost_ret (results_tmp2 rfl _ _ _) rfl ⟨by rw [hF.out]; rfl, hb.out.drew⟩
  · have hF : Hid (refT g W ⟨3, 2, a0, a1, a2, sort, fn, num⟩ 2 V = (1, true)) := by unfold Hid refT wayT; rw [h0, h1]; rfl
    clear h0 h1
    go_enter Tryz.func17, Tryz.ntmps17
    go_wp2_with fail
    go_region
    all_goals go_wp2_with fail
    all_goals exact bodyPost_ret (results_tmp2 rfl _ _ _) rfl ⟨by rw [hF.out]; rfl, hb.out.drew⟩
set_option maxHeartbeats 4000000 in
theorem RVal_5 (U : Option Addr) (a0 a1 a2 sort fn num : Int) (ucc : Nat) (sv fv mv zv wv : Value) (g : Sg) (W : Wd) (V : Nat → Int) (w : World) (_hnum : R64 num) (hV : IntsAt w (.slice U 2 ucc) 2 V) (h0 : V 0 = 0 ∨ V 0 = 1) (h1 : V 1 = 0 ∨ V 1 = 1) :
    Calls Tryz.prog 17 #[.agg #[sv, fv, mv], .agg #[zv, wv], .agg #[.int .i8 5, .int .i8 2, .int .i64 a0, .int .i64 a1, .int .i64 a2, .int .i64 sort, .int .i64 fn, .int .i64 num], .slice U 2 ucc] w (RValP (refT g W ⟨5, 2, a0, a1, a2, sort, fn, num⟩ 2 V) w) := by
  have hx := Lib.hid (vbK_bx w sv fv mv zv wv ⟨5, 2, a0, a1, a2, sort, fn, num⟩)
  have hb := Lib.hid hx.out.bel
  have hV' := Lib.hid (hV.below hx.out.bel)
  obtain ⟨_, _, e, _, hVR, hVc⟩ := hV'.out
  injection e with e1 _ e3
  subst e1; subst e3
  obtain ⟨b, o, rfl, hbl, hc⟩ := hVc (by omega)
  have r0 := hc 0 (by omega)
  obtain ⟨l0, u0⟩ := hVR 0 (by omega)
  have r1 := hc 1 (by omega)
  obtain ⟨l1, u1⟩ := hVR 1 (by omega)
  rw [Nat.add_zero] at r0
  clear hc hVc hVR hV
  rcases h0 with h0 | h0 <;> rcases h1 with h1 | h1
  all_goals rw [h0] at r0
  all_goals rw [h1] at r1
  · have hF : Hid (refT g W ⟨5, 2, a0, a1, a2, sort, fn, num⟩ 2 V = (1, true)) := by unfold Hid refT wayT; rw [h0, h1]; rfl
    clear h0 h1
    go_enter Tryz.func17, Tryz.ntmps17
    go_wp2_with fail
    go_quiet ((go_at_call 33; exact Calls.quiet_of_same (RBit_any _ _)))
    go_wp2_with fail
    exact bodyPost_ret (results_tmp2 rfl _ _ _) rfl ⟨by rw [hF.out]; rfl, (below_drewN hb.out _)⟩
  · have hF : Hid (refT g W ⟨5, 2, a0, a1, a2, sort, fn, num⟩ 2 V = (1, true)) := by unfold Hid refT wayT; rw [h0, h1]; rfl
    clear h0 h1
    go_enter Tryz.func17, Tryz.ntmps17
    go_wp2_with fail
    go_quiet ((go_at_call 33; exact Calls.quiet_of_same (RBit_any _ _)))
    go_wp2_with fail
    exact bodyPost_ret (results_tmp2 rfl _ _ _) rfl ⟨by rw [hF.out]; rfl, (below_drewN hb.out _)⟩
  · have hF : Hid (refT g W ⟨5, 2, a0, a1, a2, sort, fn, num⟩ 2 V = (0, true)) := by unfold Hid refT wayT; rw [h0, h1]; rfl
    clear h0 h1
    go_enter Tryz.func17, Tryz.ntmps17
    go_wp2_with fail
    go_quiet ((go_at_call 33; exact Calls.quiet_of_same (RBit_any _ _)))
    go_wp2_with fail
    exact bodyPost_ret (results_tmp2 rfl _ _ _) rfl ⟨by rw [hF.out]; rfl, (below_drewN hb.out _)⟩
  · have hF : Hid (refT g W ⟨5, 2, a0, a1, a2, sort, fn, num⟩ 2 V = (1, true)) := by unfold Hid refT wayT; rw [h0, h1]; rfl
    clear h0 h1
    go_enter Tryz.func17, Tryz.ntmps17
    go_wp2_with fail
    go_quiet ((go_at_call 33; exact Calls.quiet_of_same (RBit_any _ _)))
    go_wp2_with fail
    exact bodyPost_ret (results_tmp2 rfl _ _ _) rfl ⟨by rw [hF.out]; rfl, (below_drewN hb.out _)⟩
set_option maxHeartbeats 4000000 in
theorem RVal_4 (U : Option Addr) (a0 a1 a2 sort fn num : Int) (ucc : Nat) (sv fv mv zv wv : Value) (g : Sg) (W : Wd) (V : Nat → Int) (w : World) (_hnum : R64 num) (hV : IntsAt w (.slice U 2 ucc) 2 V) :
    Calls Tryz.prog 17 #[.agg #[sv, fv, mv], .agg #[zv, wv], .agg #[.int .i8 4, .int .i8 2, .int .i64 a0, .int .i64 a1, .int .i64 a2, .int .i64 sort, .int .i64 fn, .int .i64 num], .slice U 2 ucc] w (RValP (refT g W ⟨4, 2, a0, a1, a2, sort, fn, num⟩ 2 V) w) := by
  have hx := Lib.hid (vbK_bx w sv fv mv zv wv ⟨4, 2, a0, a1, a2, sort, fn, num⟩)
  have hb := Lib.hid hx.out.bel
  have hV' := Lib.hid (hV.below hx.out.bel)
  obtain ⟨_, _, e, _, hVR, hVc⟩ := hV'.out
  injection e with e1 _ e3
  subst e1; subst e3
  obtain ⟨b, o, rfl, hbl, hc⟩ := hVc (by omega)
  have r0 := hc 0 (by omega)
  obtain ⟨l0, u0⟩ := hVR 0 (by omega)
  have r1 := hc 1 (by omega)
  obtain ⟨l1, u1⟩ := hVR 1 (by omega)
  rw [Nat.add_zero] at r0
  clear hc hVc hVR hV
  by_cases h : V 0 = V 1
  · have d1 : (V 0 != V 1) = false := by simpa using h
    have hF : Hid (refT g W ⟨4, 2, a0, a1, a2, sort, fn, num⟩ 2 V = (bI false, true)) := by
      have : refT g W ⟨4, 2, a0, a1, a2, sort, fn, num⟩ 2 V = (bI ((V 0 != V 1)), true) := rfl
      unfold Hid; rw [this, d1]
    clear h
    go_enter Tryz.func17, Tryz.ntmps17
    go_wp2_with fail
    go_quiet ((go_at_call 33; exact Calls.quiet_of_same (RBit_any _ _)))
    go_wp2_with fail
    exact bodyPost_ret (results_tmp2 rfl _ _ _) rfl ⟨by rw [hF.out]; rfl, (below_drewN hb.out _)⟩
  · have d1 : (V 0 != V 1) = true := by simpa using h
    have hF : Hid (refT g W ⟨4, 2, a0, a1, a2, sort, fn, num⟩ 2 V = (bI true, true)) := by
      have : refT g W ⟨4, 2, a0, a1, a2, sort, fn, num⟩ 2 V = (bI ((V 0 != V 1)), true) := rfl
      unfold Hid; rw [this, d1]
    clear h
    go_enter Tryz.func17, Tryz.ntmps17
    go_wp2_with fail
    go_quiet ((go_at_call 33; exact Calls.quiet_of_same (RBit_any _ _)))
    go_wp2_with fail
    exact bodyPost_ret (results_tmp2 rfl _ _ _) rfl ⟨by rw [hF.out]; rfl, (below_drewN hb.out _)⟩
set_option maxHeartbeats 4000000 in
theorem RVal_6 (U : Option Addr) (a0 a1 a2 sort fn num : Int) (ucc : Nat) (sv fv mv zv wv : Value) (g : Sg) (W : Wd) (V : Nat → Int) (w : World) (_hnum : R64 num) (hV : IntsAt w (.slice U 2 ucc) 2 V) :
    Calls Tryz.prog 17 #[.agg #[sv, fv, mv], .agg #[zv, wv], .agg #[.int .i8 6, .int .i8 2, .int .i64 a0, .int .i64 a1, .int .i64 a2, .int .i64 sort, .int .i64 fn, .int .i64 num], .slice U 2 ucc] w (RValP (refT g W ⟨6, 2, a0, a1, a2, sort, fn, num⟩ 2 V) w) := by
  have hx := Lib.hid (vbK_bx w sv fv mv zv wv ⟨6, 2, a0, a1, a2, sort, fn, num⟩)
  have hb := Lib.hid hx.out.bel
  have hV' := Lib.hid (hV.below hx.out.bel)
  obtain ⟨_, _, e, _, hVR, hVc⟩ := hV'.out
  injection e with e1 _ e3
  subst e1; subst e3
  obtain ⟨b, o, rfl, hbl, hc⟩ := hVc (by omega)
  have r0 := hc 0 (by omega)
  obtain ⟨l0, u0⟩ := hVR 0 (by omega)
  have r1 := hc 1 (by omega)
  obtain ⟨l1, u1⟩ := hVR 1 (by omega)
  rw [Nat.add_zero] at r0
  clear hc hVc hVR hV
  by_cases h : V 0 = V 1
  · have d1 : (V 0 == V 1) = true := by simpa using h
    have hF : Hid (refT g W ⟨6, 2, a0, a1, a2, sort, fn, num⟩ 2 V = (bI true, true)) := by
      have : refT g W ⟨6, 2, a0, a1, a2, sort, fn, num⟩ 2 V = (bI ((V 0 == V 1)), true) := rfl
      unfold Hid; rw [this, d1]
    clear h
    go_enter Tryz.func17, Tryz.ntmps17
    go_wp2_with fail
    go_quiet ((go_at_call 33; exact Calls.quiet_of_same (RBit_any _ _)))
    go_wp2_with fail
    exact bodyPost_ret (results_tmp2 rfl _ _ _) rfl ⟨by rw [hF.out]; rfl, (below_drewN hb.out _)⟩
  · have d1 : (V 0 == V 1) = false := by simpa using h
    have hF : Hid (refT g W ⟨6, 2, a0, a1, a2, sort, fn, num⟩ 2 V = (bI false, true)) := by
      have : refT g W ⟨6, 2, a0, a1, a2, sort, fn, num⟩ 2 V = (bI ((V 0 == V 1)), true) := rfl
      unfold Hid; rw [this, d1]
    clear h
    go_enter Tryz.func17, Tryz.ntmps17
    go_wp2_with fail
    go_quiet ((go_at_call 33; exact Calls.quiet_of_same (RBit_any _ _)))
    go_wp2_with fail
    exact bodyPost_ret (results_tmp2 rfl _ _ _) rfl ⟨by rw [hF.out]; rfl, (below_drewN hb.out _)⟩
set_option maxHeartbeats 4000000 in
theorem RVal_8 (U : Option Addr) (a0 a1 a2 sort fn num : Int) (ucc : Nat) (sv fv mv zv wv : Value) (g : Sg) (W : Wd) (V : Nat → Int) (w : World) (_hnum : R64 num) (hV : IntsAt w (.slice U 2 ucc) 2 V) :
    Calls Tryz.prog 17 #[.agg #[sv, fv, mv], .agg #[zv, wv], .agg #[.int .i8 8, .int .i8 2, .int .i64 a0, .int .i64 a1, .int .i64 a2, .int .i64 sort, .int .i64 fn, .int .i64 num], .slice U 2 ucc] w (RValP (refT g W ⟨8, 2, a0, a1, a2, sort, fn, num⟩ 2 V) w) := by
  have hx := Lib.hid (vbK_bx w sv fv mv zv wv ⟨8, 2, a0, a1, a2, sort, fn, num⟩)
  have hb := Lib.hid hx.out.bel
  have hV' := Lib.hid (hV.below hx.out.bel)
  obtain ⟨_, _, e, _, hVR, hVc⟩ := hV'.out
  injection e with e1 _ e3
  subst e1; subst e3
  obtain ⟨b, o, rfl, hbl, hc⟩ := hVc (by omega)
  have r0 := hc 0 (by omega)
  obtain ⟨l0, u0⟩ := hVR 0 (by omega)
  have r1 := hc 1 (by omega)
  obtain ⟨l1, u1⟩ := hVR 1 (by omega)
  rw [Nat.add_zero] at r0
  clear hc hVc hVR hV
  by_cases h : V 0 ≤ V 1
  · have d1 : decide (V 0 ≤ V 1) = true := decide_eq_true h
    have hF : Hid (refT g W ⟨8, 2, a0, a1, a2, sort, fn, num⟩ 2 V = (bI true, true)) := by
      have : refT g W ⟨8, 2, a0, a1, a2, sort, fn, num⟩ 2 V = (bI (decide (V 0 ≤ V 1)), true) := rfl
      unfold Hid; rw [this, d1]
    clear h
    go_enter Tryz.func17, Tryz.ntmps17
    go_wp2_with fail
    go_quiet ((go_at_call 33; exact Calls.quiet_of_same (RBit_any _ _)))
    go_wp2_with fail
    exact bodyPost_ret (results_tmp2 rfl _ _ _) rfl ⟨by rw [hF.out]; rfl, (below_drewN hb.out _)⟩
  · have d1 : decide (V 0 ≤ V 1) = false := decide_eq_false h
    have hF : Hid (refT g W ⟨8, 2, a0, a1, a2, sort, fn, num⟩ 2 V = (bI false, true)) := by
      have : refT g W ⟨8, 2, a0, a1, a2, sort, fn, num⟩ 2 V = (bI (decide (V 0 ≤ V 1)), true) := rfl
      unfold Hid; rw [this, d1]
    clear h
    go_enter Tryz.func17, Tryz.ntmps17
    go_wp2_with fail
    go_quiet ((go_at_call 33; exact Calls.quiet_of_same (RBit_any _ _)))
    go_wp2_with fail
    exact bodyPost_ret (results_tmp2 rfl _ _ _) rfl ⟨by rw [hF.out]; rfl, (below_drewN hb.out _)⟩
set_option maxHeartbeats 4000000 in
theorem RVal_9 (U : Option Addr) (a0 a1 a2 sort fn num : Int) (ucc : Nat) (sv fv mv zv wv : Value) (g : Sg) (W : Wd) (V : Nat → Int) (w : World) (_hnum : R64 num) (hV : IntsAt w (.slice U 2 ucc) 2 V) :
    Calls Tryz.prog 17 #[.agg #[sv, fv, mv], .agg #[zv, wv], .agg #[.int .i8 9, .int .i8 2, .int .i64 a0, .int .i64 a1, .int .i64 a2, .int .i64 sort, .int .i64 fn, .int .i64 num], .slice U 2 ucc] w (RValP (refT g W ⟨9, 2, a0, a1, a2, sort, fn, num⟩ 2 V) w) := by
  have hx := Lib.hid (vbK_bx w sv fv mv zv wv ⟨9, 2, a0, a1, a2, sort, fn, num⟩)
  have hb := Lib.hid hx.out.bel
  have hV' := Lib.hid (hV.below hx.out.bel)
  obtain ⟨_, _, e, _, hVR, hVc⟩ := hV'.out
  injection e with e1 _ e3
  subst e1; subst e3
  obtain ⟨b, o, rfl, hbl, hc⟩ := hVc (by omega)
  have r0 := hc 0 (by omega)
  obtain ⟨l0, u0⟩ := hVR 0 (by omega)
  have r1 := hc 1 (by omega)
  obtain ⟨l1, u1⟩ := hVR 1 (by omega)
  rw [Nat.add_zero] at r0
  clear hc hVc hVR hV
  by_cases h : V 0 < V 1
  · have d1 : decide (V 0 < V 1) = true := decide_eq_true h
    have hF : Hid (refT g W ⟨9, 2, a0, a1, a2, sort, fn, num⟩ 2 V = (bI true, true)) := by
      have : refT g W ⟨9, 2, a0, a1, a2, sort, fn, num⟩ 2 V = (bI (decide (V 0 < V 1)), true) := rfl
      unfold Hid; rw [this, d1]
    clear h
    go_enter Tryz.func17, Tryz.ntmps17
    go_wp2_with fail
    go_quiet ((go_at_call 33; exact Calls.quiet_of_same (RBit_any _ _)))
    go_wp2_with fail
    exact bodyPost_ret (results_tmp2 rfl _ _ _) rfl ⟨by rw [hF.out]; rfl, (below_drewN hb.out _)⟩
  · have d1 : decide (V 0 < V 1) = false := decide_eq_false h
    have hF : Hid (refT g W ⟨9, 2, a0, a1, a2, sort, fn, num⟩ 2 V = (bI false, true)) := by
      have : refT g W ⟨9, 2, a0, a1, a2, sort, fn, num⟩ 2 V = (bI (decide (V 0 < V 1)), true) := rfl
      unfold Hid; rw [this, d1]
    clear h
    go_enter Tryz.func17, Tryz.ntmps17
    go_wp2_with fail
    go_quiet ((go_at_call 33; exact Calls.quiet_of_same (RBit_any _ _)))
    go_wp2_with fail
    exact bodyPost_ret (results_tmp2 rfl _ _ _) rfl ⟨by rw [hF.out]; rfl, (below_drewN hb.out _)⟩
set_option maxHeartbeats 4000000 in
theorem RVal_7 (U : Option Addr) (a0 a1 a2 sort fn num : Int) (ucc : Nat) (sv fv mv zv wv : Value) (g : Sg) (W : Wd) (V : Nat → Int) (w : World) (_hnum : R64 num) (hV : IntsAt w (.slice U 3 ucc) 3 V) :
    Calls Tryz.prog 17 #[.agg #[sv, fv, mv], .agg #[zv, wv], .agg #[.int .i8 7, .int .i8 3, .int .i64 a0, .int .i64 a1, .int .i64 a2, .int .i64 sort, .int .i64 fn, .int .i64 num], .slice U 3 ucc] w (RValP (refT g W ⟨7, 3, a0, a1, a2, sort, fn, num⟩ 3 V) w) := by
  have hx := Lib.hid (vbK_bx w sv fv mv zv wv ⟨7, 3, a0, a1, a2, sort, fn, num⟩)
  have hb := Lib.hid hx.out.bel
  have hV' := Lib.hid (hV.below hx.out.bel)
  obtain ⟨_, _, e, _, hVR, hVc⟩ := hV'.out
  injection e with e1 _ e3
  subst e1; subst e3
  obtain ⟨b, o, rfl, hbl, hc⟩ := hVc (by omega)
  have r0 := hc 0 (by omega)
  obtain ⟨l0, u0⟩ := hVR 0 (by omega)
  have r1 := hc 1 (by omega)
  obtain ⟨l1, u1⟩ := hVR 1 (by omega)
  have r2 := hc 2 (by omega)
  obtain ⟨l2, u2⟩ := hVR 2 (by omega)
  rw [Nat.add_zero] at r0
  clear hc hVc hVR hV
  by_cases h : V 0 = 1
  · have d1 : (V 0 == 1) = true := by simpa using h
    have hF : Hid (refT g W ⟨7, 3, a0, a1, a2, sort, fn, num⟩ 3 V = (V 1, true)) := by
      have : refT g W ⟨7, 3, a0, a1, a2, sort, fn, num⟩ 3 V = (if V 0 = 1 then V 1 else V 2, true) := rfl
      unfold Hid; rw [this, if_pos h]
    clear h
    go_enter Tryz.func17, Tryz.ntmps17
    go_wp2_with fail
    exact bodyPost_ret (results_tmp2 rfl _ _ _) rfl ⟨by rw [hF.out]; rfl, hb.out⟩
  · have d1 : (V 0 == 1) = false := by simpa using h
    have hF : Hid (refT g W ⟨7, 3, a0, a1, a2, sort, fn, num⟩ 3 V = (V 2, true)) := by
      have : refT g W ⟨7, 3, a0, a1, a2, sort, fn, num⟩ 3 V = (if V 0 = 1 then V 1 else V 2, true) := rfl
      unfold Hid; rw [this, if_neg h]
    clear h
    go_enter Tryz.func17, Tryz.ntmps17
    go_wp2_with fail
    exact bodyPost_ret (results_tmp2 rfl _ _ _) rfl ⟨by rw [hF.out]; rfl, hb.out⟩
set_option maxHeartbeats 4000000 in
theorem RVal_10 (U : Option Addr) (a0 a1 a2 sort fn num : Int) (ucc : Nat) (sv fv mv zv wv : Value) (g : Sg) (W : Wd) (V : Nat → Int) (w : World) (_hnum : R64 num) (_hV : IntsAt w (.slice U 0 ucc) 0 V) :
    Calls Tryz.prog 17 #[.agg #[sv, fv, mv], .agg #[zv, wv], .agg #[.int .i8 10, .int .i8 0, .int .i64 a0, .int .i64 a1, .int .i64 a2, .int .i64 sort, .int .i64 fn, .int .i64 num], .slice U 0 ucc] w (RValP (refT g W ⟨10, 0, a0, a1, a2, sort, fn, num⟩ 0 V) w) := by
  have hx := Lib.hid (vbK_bx w sv fv mv zv wv ⟨10, 0, a0, a1, a2, sort, fn, num⟩)
  have hb := Lib.hid hx.out.bel
  have hF : Hid (refT g W ⟨10, 0, a0, a1, a2, sort, fn, num⟩ 0 V = (num, true)) := rfl
  go_enter Tryz.func17, Tryz.ntmps17
  go_wp2_with fail
  exact bodyPost_ret (results_tmp2 rfl _ _ _) rfl ⟨by rw [hF.out]; rfl, hb.out⟩
set_option maxHeartbeats 4000000 in
theorem RVal_12 (U : Option Addr) (a0 a1 a2 sort fn num : Int) (ucc : Nat) (sv fv mv zv wv : Value) (g : Sg) (W : Wd) (V : Nat → Int) (w : World) (_hnum : R64 num) (hV : IntsAt w (.slice U 2 ucc) 2 V) :
    Calls Tryz.prog 17 #[.agg #[sv, fv, mv], .agg #[zv, wv], .agg #[.int .i8 12, .int .i8 2, .int .i64 a0, .int .i64 a1, .int .i64 a2, .int .i64 sort, .int .i64 fn, .int .i64 num], .slice U 2 ucc] w (RValP (refT g W ⟨12, 2, a0, a1, a2, sort, fn, num⟩ 2 V) w) := by
  have hx := Lib.hid (vbK_bx w sv fv mv zv wv ⟨12, 2, a0, a1, a2, sort, fn, num⟩)
  have hb := Lib.hid hx.out.bel
  have hV' := Lib.hid (hV.below hx.out.bel)
  obtain ⟨_, _, e, _, hVR, hVc⟩ := hV'.out
  injection e with e1 _ e3
  subst e1; subst e3
  obtain ⟨b, o, rfl, hbl, hc⟩ := hVc (by omega)
  have r0 := hc 0 (by omega)
  obtain ⟨l0, u0⟩ := hVR 0 (by omega)
  have r1 := hc 1 (by omega)
  obtain ⟨l1, u1⟩ := hVR 1 (by omega)
  rw [Nat.add_zero] at r0
  clear hc hVc hVR hV
  have hF0 : Hid (refT g W ⟨12, 2, a0, a1, a2, sort, fn, num⟩ 2 V = (bI (atMB (V 0) (V 1) num), true)) := rfl
  have hA := Lib.hid (fun (x : World) => R10AtMost_any (V 0) (V 1) num x)
  generalize atMB (V 0) (V 1) num = q at *
  have hF : Hid (refT g W ⟨12, 2, a0, a1, a2, sort, fn, num⟩ 2 V = (bI q, true)) := hF0.out
  clear hF0
  go_enter Tryz.func17, Tryz.ntmps17
  go_wp2_with fail
  go_quiet ((first | (go_at_call 34; exact Calls.quiet_of_same (hA.out _)) | (go_at_call 33; exact Calls.quiet_of_same (RBit_any _ _))))
  go_wp2_with fail
  exact bodyPost_ret (results_tmp2 rfl _ _ _) rfl ⟨by rw [hF.out]; rfl, (below_drewN hb.out _)⟩
set_option maxHeartbeats 4000000 in
theorem RVal_11 (U : Option Addr) (a0 a1 a2 sort fn num : Int) (ucc : Nat) (sv fv mv zv wv : Value) (g : Sg) (W : Wd) (V : Nat → Int) (w : World) (_hnum : R64 num) (hV : IntsAt w (.slice U 1 ucc) 1 V) (h0 : mayB (V 0) = true) (h1 : mayB num = true) :
    Calls Tryz.prog 17 #[.agg #[sv, fv, mv], .agg #[zv, wv], .agg #[.int .i8 11, .int .i8 1, .int .i64 a0, .int .i64 a1, .int .i64 a2, .int .i64 sort, .int .i64 fn, .int .i64 num], .slice U 1 ucc] w (RValP (refT g W ⟨11, 1, a0, a1, a2, sort, fn, num⟩ 1 V) w) := by
  have hx := Lib.hid (vbK_bx w sv fv mv zv wv ⟨11, 1, a0, a1, a2, sort, fn, num⟩)
  have hb := Lib.hid hx.out.bel
  have hV' := Lib.hid (hV.below hx.out.bel)
  obtain ⟨_, _, e, _, hVR, hVc⟩ := hV'.out
  injection e with e1 _ e3
  subst e1; subst e3
  obtain ⟨b, o, rfl, hbl, hc⟩ := hVc (by omega)
  have r0 := hc 0 (by omega)
  obtain ⟨l0, u0⟩ := hVR 0 (by omega)
  rw [Nat.add_zero] at r0
  clear hc hVc hVR hV
  have hF0 : Hid (refT g W ⟨11, 1, a0, a1, a2, sort, fn, num⟩ 1 V = (if farB (V 0) num then (0, false) else (V 0 + num, mayB (V 0 + num)))) := rfl
  have hfar : Hid (farB (V 0) num = (decide (2305843009213693953 < (V 0).tdiv 2 + num.tdiv 2) || decide ((V 0).tdiv 2 + num.tdiv 2 < -2305843009213693953))) := rfl
  have q1 := half2 (V 0)
  have q2 := half2 num
  obtain ⟨m0, m1⟩ := may_lo h0
  obtain ⟨m2, m3⟩ := may_lo h1
  have hFi := Lib.hid (fun (x : World) => RFits10_any (V 0 + num) x)
  have hw1 : IntKind.i64.wrap ((V 0).tdiv 2 + num.tdiv 2) = (V 0).tdiv 2 + num.tdiv 2 := IntWalk.i64_in _ (by omega)
  have hw3 : IntKind.i64.wrap ((V 0).tdiv 2) = (V 0).tdiv 2 := IntWalk.i64_in _ (by omega)
  have hw4 : IntKind.i64.wrap (num.tdiv 2) = num.tdiv 2 := IntWalk.i64_in _ (by omega)
  by_cases c1 : 2305843009213693953 < (V 0).tdiv 2 + num.tdiv 2
  · have d1 : decide (2305843009213693953 < (V 0).tdiv 2 + num.tdiv 2) = true := decide_eq_true c1
    have hF : Hid (refT g W ⟨11, 1, a0, a1, a2, sort, fn, num⟩ 1 V = (0, false)) := by unfold Hid; rw [hF0.out, hfar.out, d1]; rfl
    clear c1 hF0 hfar q1 q2 h0 h1
    go_enter Tryz.func17, Tryz.ntmps17
    go_wp2_with fail
    go_quiet (fail)
    go_wp2_with fail
    exact bodyPost_ret (results_tmp2 rfl _ _ _) rfl ⟨by rw [hF.out]; rfl, (below_drewN hb.out _)⟩
  have d1 : decide (2305843009213693953 < (V 0).tdiv 2 + num.tdiv 2) = false := decide_eq_false c1
  by_cases c2 : (V 0).tdiv 2 + num.tdiv 2 < -2305843009213693953
  · have d2 : decide ((V 0).tdiv 2 + num.tdiv 2 < -2305843009213693953) = true := decide_eq_true c2
    have hF : Hid (refT g W ⟨11, 1, a0, a1, a2, sort, fn, num⟩ 1 V = (0, false)) := by unfold Hid; rw [hF0.out, hfar.out, d1, d2]; rfl
    clear c1 c2 hF0 hfar q1 q2 h0 h1
    go_enter Tryz.func17, Tryz.ntmps17
    go_wp2_with fail
    go_quiet (fail)
    go_wp2_with fail
    exact bodyPost_ret (results_tmp2 rfl _ _ _) rfl ⟨by rw [hF.out]; rfl, (below_drewN hb.out _)⟩
  have d2 : decide ((V 0).tdiv 2 + num.tdiv 2 < -2305843009213693953) = false := decide_eq_false c2
  have hF : Hid (refT g W ⟨11, 1, a0, a1, a2, sort, fn, num⟩ 1 V = (V 0 + num, mayB (V 0 + num))) := by unfold Hid; rw [hF0.out, hfar.out, d1, d2]; rfl
  have hw2 : IntKind.i64.wrap (V 0 + num) = V 0 + num := IntWalk.i64_in _ (by omega)
  clear c1 c2 hF0 hfar q1 q2 h0 h1
  generalize mayB (V 0 + num) = q at *
  go_enter Tryz.func17, Tryz.ntmps17
  go_wp2_with fail
  go_quiet (fail)
  go_wp2_with fail
  go_quiet ((go_at_call 35; exact quiet_add_same (hFi.out _)))
  go_wp2_with fail
  exact bodyPost_ret (results_tmp2 rfl _ _ _) rfl ⟨by rw [hF.out]; rfl, (below_drewN (below_drewN hb.out _) _)⟩
set_option maxHeartbeats 4000000 in
theorem RVal_13 (len a0 a1 a2 sort fn num : Int) (sv fv mv zv wv uv : Value) (g : Sg) (W : Wd) (m : Nat) (V : Nat → Int) (w : World) (hG : SgAt w sv fv mv g) (hW : WdAt w zv wv W) (hw : FewW W) (hV : IntsAt w uv m V) :
    Calls Tryz.prog 17 #[.agg #[sv, fv, mv], .agg #[zv, wv], .agg #[.int .i8 13, .int .i8 len, .int .i64 a0, .int .i64 a1, .int .i64 a2, .int .i64 sort, .int .i64 fn, .int .i64 num], uv] w (RValP (refT g W ⟨13, len, a0, a1, a2, sort, fn, num⟩ m V) w) := by
  have hx := Lib.hid (vbK_bx w sv fv mv zv wv ⟨13, len, a0, a1, a2, sort, fn, num⟩)
  have hA := Lib.hid (R9Apply_any sv fv mv zv wv uv g W fn m V _ (hG.below hx.out.bel) (hW.below hx.out.bel) hw (hV.below hx.out.bel))
  have hF0 : Hid (refT g W ⟨13, len, a0, a1, a2, sort, fn, num⟩ m V = ((valT g W fn m V).1, true)) := rfl
  obtain ⟨A, c, rfl, -, -⟩ := hG.1
  obtain ⟨FA, fc, rfl, -, -⟩ := hG.2.1
  obtain ⟨MA, mc, rfl, -, -⟩ := hG.2.2
  obtain ⟨ZA, zc, rfl, -, -, -⟩ := hW.1
  obtain ⟨WA, wq, rfl, -, -⟩ := hW.2
  obtain ⟨UA, uc, rfl, hmn, -, -⟩ := hV
  generalize valT g W fn m V = p at *
  obtain ⟨p1, p2⟩ := p
  dsimp only at hF0 hA
  have hF : Hid (refT g W ⟨13, len, a0, a1, a2, sort, fn, num⟩ m V = (p1, true)) := hF0.out
  clear hF0 hG hW
  obtain ⟨⟨e0, -⟩, ⟨e1, -⟩, ⟨e2, -⟩, ⟨e3, -⟩, ⟨e4, -⟩, ⟨e5, -⟩, ⟨e6, -⟩, ⟨e7, -⟩, ⟨k0, -⟩, ⟨k1, -⟩, ⟨k2, -⟩, ⟨k3, -⟩, ⟨k4, -⟩, -⟩ := hx.out.cells
  go_enter Tryz.func17, Tryz.ntmps17
  go_wp2_with fail
  refine hA.out.mono ?_
  rintro e w2 ⟨rfl, hb2⟩
  have hx2 := Lib.hid (hx.out.step hb2)
  clear hA hb2 hx e0 e1 e2 e3 e4 e5 e6 e7 k0 k1 k2 k3 k4
  go_wp2_with fail
  exact bodyPost_ret (results_tmp2 rfl _ _ _) rfl ⟨by rw [hF.out]; rfl, hx2.out.bel⟩
theorem RVal_any (sv fv mv zv wv uv : Value) (g : Sg) (W : Wd) (e : Nd) (at_ : Int) (V : Nat → Int) (w : World) (hG : SgAt w sv fv mv g) (hW : WdAt w zv wv W) (hw : FewW W) (he : NdR e) (hs : StandsP e at_) (hp : WayPre e V) (h11 : e.op = 11 → mayB (V 0) = true ∧ mayB e.num = true) (hV : IntsAt w uv e.len.toNat V) :
    Calls Tryz.prog 17 #[.agg #[sv, fv, mv], .agg #[zv, wv], ndV e, uv] w (RValP (refT g W e e.len.toNat V) w) := by
  have hl := ar_len hs
  have hnum := he.num
  obtain ⟨_, _, rfl, hmn, -, -⟩ := id hV
  obtain ⟨op, len, a0, a1, a2, sort, fn, num⟩ := e
  have hl0 : 0 ≤ len := hs.len0
  have hl : op ≠ 13 → len = ar op := hl
  rcases opw_cases hs.kind with h | h | h | h | h | h | h | h | h | h | h | h | h | h
  all_goals (have h : op = _ := h; subst h)
  · obtain rfl : len = 0 := hl (by decide)
    exact RVal_0 _ _ _ _ _ _ _ _ _ _ _ _ _ g W V w hnum hV
  · obtain rfl : len = 1 := hl (by decide)
    exact RVal_1 _ _ _ _ _ _ _ _ _ _ _ _ _ g W V w hnum hV (hp.one (.inl rfl))
  · obtain rfl : len = 2 := hl (by decide)
    have h2 := hp.two ⟨by show (2 : Int) ≤ 2; decide, by show (2 : Int) ≤ 5; decide⟩
    exact RVal_2 _ _ _ _ _ _ _ _ _ _ _ _ _ g W V w hnum hV h2.1 h2.2
  · obtain rfl : len = 2 := hl (by decide)
    have h2 := hp.two ⟨by show (2 : Int) ≤ 3; decide, by show (3 : Int) ≤ 5; decide⟩
    exact RVal_3 _ _ _ _ _ _ _ _ _ _ _ _ _ g W V w hnum hV h2.1 h2.2
  · obtain rfl : len = 2 := hl (by decide)
    exact RVal_4 _ _ _ _ _ _ _ _ _ _ _ _ _ g W V w hnum hV
  · obtain rfl : len = 2 := hl (by decide)
    have h2 := hp.two ⟨by show (2 : Int) ≤ 5; decide, by show (5 : Int) ≤ 5; decide⟩
    exact RVal_5 _ _ _ _ _ _ _ _ _ _ _ _ _ g W V w hnum hV h2.1 h2.2
  · obtain rfl : len = 2 := hl (by decide)
    exact RVal_6 _ _ _ _ _ _ _ _ _ _ _ _ _ g W V w hnum hV
  · obtain rfl : len = 3 := hl (by decide)
    exact RVal_7 _ _ _ _ _ _ _ _ _ _ _ _ _ g W V w hnum hV
  · obtain rfl : len = 2 := hl (by decide)
    exact RVal_8 _ _ _ _ _ _ _ _ _ _ _ _ _ g W V w hnum hV
  · obtain rfl : len = 2 := hl (by decide)
    exact RVal_9 _ _ _ _ _ _ _ _ _ _ _ _ _ g W V w hnum hV
  · obtain rfl : len = 0 := hl (by decide)
    exact RVal_10 _ _ _ _ _ _ _ _ _ _ _ _ _ g W V w hnum hV
  · obtain rfl : len = 1 := hl (by decide)
    exact RVal_11 _ _ _ _ _ _ _ _ _ _ _ _ _ g W V w hnum hV (h11 rfl).1 (h11 rfl).2
  · obtain rfl : len = 2 := hl (by decide)
    exact RVal_12 _ _ _ _ _ _ _ _ _ _ _ _ _ g W V w hnum hV
  · exact RVal_13 _ _ _ _ _ _ _ _ _ _ _ _ _ g W _ V w hG hW hw hV
end Go.Proofs.YtecmoahadckomaaGreat
