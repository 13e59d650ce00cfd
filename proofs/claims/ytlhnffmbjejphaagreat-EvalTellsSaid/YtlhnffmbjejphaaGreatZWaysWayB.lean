/- eval's ways: each kind's function. -/
import Derived.Test.YtlhnffmbjejphaaGreatZEvPToAllW
import Derived.Test.YtlhnffmbjejphaaGreatZVAskVApp
import Derived.Test.YtlhnffmbjejphaaGreatZNumAdd
import Derived.Test.YtlhnffmbjejphaaGreatZRegIn
namespace Go.Proofs.YtlhnffmbjejphaaGreat
open Go.RowKit
set_option maxRecDepth 100000

theorem bit_any (b : Bool) (w : World) : Calls Tryz.prog 59 #[.bool b] w fun e w' => e = .returned (.int .i64 (bI b)) ∧ w' = w := by
  go_enter Tryz.func59, Tryz.ntmps59
  cases b with
  | true =>
    go_wp2
    go_ret
    exact ⟨rfl, rfl⟩
  | false =>
    go_wp2
    go_ret
    exact ⟨rfl, rfl⟩
theorem way1_any (v : Value) (m : Nat) (V : Nat → Int) (w : World) (hv : IntsAt w v m V) (hm : m = 0) :
    Calls Tryz.prog 52 #[v] w fun e w' => e = .returned (.int .i64 (1)) ∧ Below w.heap.size w w' := by
  subst hm
  go_enter Tryz.func52, Tryz.ntmps52
  go_wp2
  go_ret
  exact ⟨rfl, Below.refl _ _⟩
theorem way2_any (v : Value) (m : Nat) (V : Nat → Int) (w : World) (hv : IntsAt w v m V) (hm : m = 1) (h0 : V 0 = 0 ∨ V 0 = 1) :
    Calls Tryz.prog 53 #[v] w fun e w' => e = .returned (.int .i64 (1 - V 0)) ∧ Below w.heap.size w w' := by
  subst hm
  obtain ⟨A, c, rfl, hn, hR, hc⟩ := hv
  obtain ⟨b, o, rfl, hb, hcs⟩ := hc (by omega)
  have r0 := hcs 0 (by omega)
  obtain ⟨l0, u0⟩ := hR 0 (by omega)
  rw [Nat.add_zero] at r0
  clear hcs hc hR
  generalize V 0 = x0 at *
  go_enter Tryz.func53, Tryz.ntmps53
  rcases h0 with rfl | rfl
  all_goals go_wp2
  all_goals go_ret
  all_goals exact ⟨rfl, Below.refl _ _⟩
theorem way3_any (v : Value) (m : Nat) (V : Nat → Int) (w : World) (hv : IntsAt w v m V) (hm : m = 2) (h0 : V 0 = 0 ∨ V 0 = 1) (h1 : V 1 = 0 ∨ V 1 = 1) :
    Calls Tryz.prog 54 #[v] w fun e w' => e = .returned (.int .i64 (bI (V 0 == 1 && V 1 == 1))) ∧ Below w.heap.size w w' := by
  subst hm
  obtain ⟨A, c, rfl, hn, hR, hc⟩ := hv
  obtain ⟨b, o, rfl, hb, hcs⟩ := hc (by omega)
  have r0 := hcs 0 (by omega)
  obtain ⟨l0, u0⟩ := hR 0 (by omega)
  have r1 := hcs 1 (by omega)
  obtain ⟨l1, u1⟩ := hR 1 (by omega)
  rw [Nat.add_zero] at r0
  clear hcs hc hR
  generalize V 0 = x0 at *
  generalize V 1 = x1 at *
  go_enter Tryz.func54, Tryz.ntmps54
  rcases h0 with rfl | rfl <;> rcases h1 with rfl | rfl
  all_goals go_wp2
  all_goals go_quiet (fail)
  all_goals go_wp2
  all_goals go_ret
  all_goals exact ⟨rfl, below_drewN (Below.refl _ _) _⟩
theorem way4_any (v : Value) (m : Nat) (V : Nat → Int) (w : World) (hv : IntsAt w v m V) (hm : m = 2) (h0 : V 0 = 0 ∨ V 0 = 1) (h1 : V 1 = 0 ∨ V 1 = 1) :
    Calls Tryz.prog 55 #[v] w fun e w' => e = .returned (.int .i64 (bI (V 0 == 1 || V 1 == 1))) ∧ Below w.heap.size w w' := by
  subst hm
  obtain ⟨A, c, rfl, hn, hR, hc⟩ := hv
  obtain ⟨b, o, rfl, hb, hcs⟩ := hc (by omega)
  have r0 := hcs 0 (by omega)
  obtain ⟨l0, u0⟩ := hR 0 (by omega)
  have r1 := hcs 1 (by omega)
  obtain ⟨l1, u1⟩ := hR 1 (by omega)
  rw [Nat.add_zero] at r0
  clear hcs hc hR
  generalize V 0 = x0 at *
  generalize V 1 = x1 at *
  go_enter Tryz.func55, Tryz.ntmps55
  rcases h0 with rfl | rfl <;> rcases h1 with rfl | rfl
  all_goals go_wp2
  all_goals go_quiet (fail)
  all_goals go_wp2
  all_goals go_ret
  all_goals exact ⟨rfl, below_drewN (Below.refl _ _) _⟩
theorem way5_any (v : Value) (m : Nat) (V : Nat → Int) (w : World) (hv : IntsAt w v m V) (hm : m = 2) (h0 : V 0 = 0 ∨ V 0 = 1) (h1 : V 1 = 0 ∨ V 1 = 1) :
    Calls Tryz.prog 56 #[v] w fun e w' => e = .returned (.int .i64 (bI (V 0 != V 1))) ∧ Below w.heap.size w w' := by
  subst hm
  obtain ⟨A, c, rfl, hn, hR, hc⟩ := hv
  obtain ⟨b, o, rfl, hb, hcs⟩ := hc (by omega)
  have r0 := hcs 0 (by omega)
  obtain ⟨l0, u0⟩ := hR 0 (by omega)
  have r1 := hcs 1 (by omega)
  obtain ⟨l1, u1⟩ := hR 1 (by omega)
  rw [Nat.add_zero] at r0
  clear hcs hc hR
  generalize V 0 = x0 at *
  generalize V 1 = x1 at *
  go_enter Tryz.func56, Tryz.ntmps56
  rcases h0 with rfl | rfl <;> rcases h1 with rfl | rfl
  all_goals go_wp2
  all_goals go_quiet (fail)
  all_goals go_wp2
  all_goals go_ret
  all_goals exact ⟨rfl, below_drewN (Below.refl _ _) _⟩
theorem way6_any (v : Value) (m : Nat) (V : Nat → Int) (w : World) (hv : IntsAt w v m V) (hm : m = 2) (h0 : V 0 = 0 ∨ V 0 = 1) (h1 : V 1 = 0 ∨ V 1 = 1) :
    Calls Tryz.prog 57 #[v] w fun e w' => e = .returned (.int .i64 (bI (!(V 0 == 1 && V 1 == 0)))) ∧ Below w.heap.size w w' := by
  subst hm
  obtain ⟨A, c, rfl, hn, hR, hc⟩ := hv
  obtain ⟨b, o, rfl, hb, hcs⟩ := hc (by omega)
  have r0 := hcs 0 (by omega)
  obtain ⟨l0, u0⟩ := hR 0 (by omega)
  have r1 := hcs 1 (by omega)
  obtain ⟨l1, u1⟩ := hR 1 (by omega)
  rw [Nat.add_zero] at r0
  clear hcs hc hR
  generalize V 0 = x0 at *
  generalize V 1 = x1 at *
  go_enter Tryz.func57, Tryz.ntmps57
  rcases h0 with rfl | rfl <;> rcases h1 with rfl | rfl
  all_goals go_wp2
  all_goals go_quiet (fail)
  all_goals go_wp2
  all_goals go_ret
  all_goals exact ⟨rfl, below_drewN (Below.refl _ _) _⟩
theorem way7_any (v : Value) (m : Nat) (V : Nat → Int) (w : World) (hv : IntsAt w v m V) (hm : m = 2) :
    Calls Tryz.prog 58 #[v] w fun e w' => e = .returned (.int .i64 (bI (V 0 == V 1))) ∧ Below w.heap.size w w' := by
  subst hm
  obtain ⟨A, c, rfl, hn, hR, hc⟩ := hv
  obtain ⟨b, o, rfl, hb, hcs⟩ := hc (by omega)
  have r0 := hcs 0 (by omega)
  obtain ⟨l0, u0⟩ := hR 0 (by omega)
  have r1 := hcs 1 (by omega)
  obtain ⟨l1, u1⟩ := hR 1 (by omega)
  rw [Nat.add_zero] at r0
  clear hcs hc hR
  generalize V 0 = x0 at *
  generalize V 1 = x1 at *
  go_enter Tryz.func58, Tryz.ntmps58
  generalize hq : (x0 == x1) = q
  go_wp2
  go_quiet ((go_at_call 59; exact Calls.quiet_of_same (bit_any _ _)))
  go_wp2
  go_ret
  exact ⟨by first | rfl | (rw [hq]; rfl) | (rw [← hq]; rfl), below_drewN (Below.refl _ _) _⟩
theorem way9_any (v : Value) (m : Nat) (V : Nat → Int) (w : World) (hv : IntsAt w v m V) (hm : m = 2) :
    Calls Tryz.prog 61 #[v] w fun e w' => e = .returned (.int .i64 (bI (decide (V 0 ≤ V 1)))) ∧ Below w.heap.size w w' := by
  subst hm
  obtain ⟨A, c, rfl, hn, hR, hc⟩ := hv
  obtain ⟨b, o, rfl, hb, hcs⟩ := hc (by omega)
  have r0 := hcs 0 (by omega)
  obtain ⟨l0, u0⟩ := hR 0 (by omega)
  have r1 := hcs 1 (by omega)
  obtain ⟨l1, u1⟩ := hR 1 (by omega)
  rw [Nat.add_zero] at r0
  clear hcs hc hR
  generalize V 0 = x0 at *
  generalize V 1 = x1 at *
  go_enter Tryz.func61, Tryz.ntmps61
  generalize hq : decide (x0 ≤ x1) = q
  go_wp2
  go_quiet ((go_at_call 59; exact Calls.quiet_of_same (bit_any _ _)))
  go_wp2
  go_ret
  exact ⟨by first | rfl | (rw [hq]; rfl) | (rw [← hq]; rfl), below_drewN (Below.refl _ _) _⟩
theorem way10_any (v : Value) (m : Nat) (V : Nat → Int) (w : World) (hv : IntsAt w v m V) (hm : m = 2) :
    Calls Tryz.prog 62 #[v] w fun e w' => e = .returned (.int .i64 (bI (decide (V 0 < V 1)))) ∧ Below w.heap.size w w' := by
  subst hm
  obtain ⟨A, c, rfl, hn, hR, hc⟩ := hv
  obtain ⟨b, o, rfl, hb, hcs⟩ := hc (by omega)
  have r0 := hcs 0 (by omega)
  obtain ⟨l0, u0⟩ := hR 0 (by omega)
  have r1 := hcs 1 (by omega)
  obtain ⟨l1, u1⟩ := hR 1 (by omega)
  rw [Nat.add_zero] at r0
  clear hcs hc hR
  generalize V 0 = x0 at *
  generalize V 1 = x1 at *
  go_enter Tryz.func62, Tryz.ntmps62
  generalize hq : decide (x0 < x1) = q
  go_wp2
  go_quiet ((go_at_call 59; exact Calls.quiet_of_same (bit_any _ _)))
  go_wp2
  go_ret
  exact ⟨by first | rfl | (rw [hq]; rfl) | (rw [← hq]; rfl), below_drewN (Below.refl _ _) _⟩
theorem way8_any (v : Value) (m : Nat) (V : Nat → Int) (w : World) (hv : IntsAt w v m V) (hm : m = 3) (h0 : V 0 = 0 ∨ V 0 = 1) :
    Calls Tryz.prog 60 #[v] w fun e w' => e = .returned (.int .i64 (if V 0 = 1 then V 1 else V 2)) ∧ Below w.heap.size w w' := by
  subst hm
  obtain ⟨A, c, rfl, hn, hR, hc⟩ := hv
  obtain ⟨b, o, rfl, hb, hcs⟩ := hc (by omega)
  have r0 := hcs 0 (by omega)
  obtain ⟨l0, u0⟩ := hR 0 (by omega)
  have r1 := hcs 1 (by omega)
  obtain ⟨l1, u1⟩ := hR 1 (by omega)
  have r2 := hcs 2 (by omega)
  obtain ⟨l2, u2⟩ := hR 2 (by omega)
  rw [Nat.add_zero] at r0
  clear hcs hc hR
  generalize V 0 = x0 at *
  generalize V 1 = x1 at *
  generalize V 2 = x2 at *
  go_enter Tryz.func60, Tryz.ntmps60
  rcases h0 with rfl | rfl
  all_goals go_wp2
  all_goals go_ret
  all_goals exact ⟨rfl, Below.refl _ _⟩
end Go.Proofs.YtlhnffmbjejphaaGreat

namespace Go.Proofs.YtlhnffmbjejphaaGreat
open Go.RowKit
set_option maxRecDepth 100000

theorem u64_diff {a b : Int} (ha : -4611686018427387904 ≤ a ∧ a ≤ 4611686018427387904) (hb : -4611686018427387904 ≤ b ∧ b ≤ 4611686018427387904) (h : b ≤ a) : IntKind.u64.wrap (IntKind.u64.wrap a - IntKind.u64.wrap b) = a - b := by
  simp [IntKind.wrap, IntKind.signed, IntKind.bits]
  omega
set_option maxHeartbeats 1000000 in
theorem AtMost_any (a b n : Int) (w : World) (ha : R64 a) (hb : R64 b) (hn : R64 n) : Calls Tryz.prog 22 #[.int .i64 a, .int .i64 b, .int .i64 n] w fun e w' => e = .returned (.bool (atMB a b n)) ∧ w' = w := by
  have hMa := Lib.hid (May_any a w ha.1 ha.2)
  have hMb := Lib.hid (May_any b w hb.1 hb.2)
  have hMn := Lib.hid (May_any n w hn.1 hn.2)
  have hR : Hid (atMB a b n = (mayB a && mayB b && mayB n && decide (a - b ≤ n))) := rfl
  have la := Lib.hid fun h => may_lo (x := a) h
  have lb := Lib.hid fun h => may_lo (x := b) h
  have ln := Lib.hid fun h => may_lo (x := n) h
  clear ha hb hn
  go_enter Tryz.func22, Tryz.ntmps22
  generalize mayB a = qa at *
  generalize mayB b = qb at *
  generalize mayB n = qn at *
  go_wp2_with fail
  refine hMa.out.mono ?_
  rintro e w1 ⟨rfl, rfl⟩
  cases qa with
  | false =>
    have hF : Hid (atMB a b n = false) := by unfold Hid; rw [hR.out]; rfl
    go_wp2_with fail
    go_ret
    exact ⟨by rw [hF.out]; rfl, rfl⟩
  | true =>
  go_wp2_with fail
  refine hMb.out.mono ?_
  rintro e w1 ⟨rfl, rfl⟩
  cases qb with
  | false =>
    have hF : Hid (atMB a b n = false) := by unfold Hid; rw [hR.out]; rfl
    go_wp2_with fail
    go_ret
    exact ⟨by rw [hF.out]; rfl, rfl⟩
  | true =>
  go_wp2_with fail
  refine hMn.out.mono ?_
  rintro e w1 ⟨rfl, rfl⟩
  cases qn with
  | false =>
    have hF : Hid (atMB a b n = false) := by unfold Hid; rw [hR.out]; rfl
    go_wp2_with fail
    go_ret
    exact ⟨by rw [hF.out]; rfl, rfl⟩
  | true =>
  have hR2 : Hid (atMB a b n = decide (a - b ≤ n)) := by unfold Hid; rw [hR.out]; simp
  obtain ⟨a0, a1⟩ := la.out trivial
  obtain ⟨b0, b1⟩ := lb.out trivial
  obtain ⟨n0, n1⟩ := ln.out rfl
  by_cases h : b ≤ a
  · have d0 : decide (b ≤ a) = true := decide_eq_true h
    by_cases g : 0 ≤ n
    · have d1 : decide (0 ≤ n) = true := decide_eq_true g
      go_wp2_with fail
      have hw := u64_diff ⟨a0, a1⟩ ⟨b0, b1⟩ h
      go_ret
      refine ⟨ret_bool ?_, rfl⟩
      rw [hR2.out, hw]
    · have d1 : decide (0 ≤ n) = false := decide_eq_false g
      have hF : Hid (atMB a b n = false) := by unfold Hid; rw [hR2.out]; exact decide_eq_false (by omega)
      clear g h
      go_wp2_with fail
      go_ret
      exact ⟨by rw [hF.out]; rfl, rfl⟩
  · have d0 : decide (b ≤ a) = false := decide_eq_false h
    by_cases g : 0 ≤ n
    · have d1 : decide (0 ≤ n) = true := decide_eq_true g
      have hF : Hid (atMB a b n = true) := by unfold Hid; rw [hR2.out]; exact decide_eq_true (by omega)
      clear g h
      go_wp2_with fail
      go_ret
      exact ⟨by rw [hF.out]; rfl, rfl⟩
    · have d1 : decide (0 ≤ n) = false := decide_eq_false g
      go_wp2_with fail
      have hw := u64_diff ⟨b0, b1⟩ ⟨a0, a1⟩ (by omega)
      go_ret
      refine ⟨ret_bool ?_, rfl⟩
      rw [hR2.out, hw, Bool.eq_iff_iff, decide_eq_true_eq, decide_eq_true_eq]
      omega
theorem way11_any (e : Nd) (v : Value) (w : World) : Calls Tryz.prog 63 #[ndV e, v] w fun z w' => z = .returned (.tuple #[.int .i64 e.num, .bool true]) ∧ Below w.heap.size w w' := by
  unfold ndV
  go_enter Tryz.func63, Tryz.ntmps63
  go_wp2
  exact bodyPost_ret (results_tmp2 rfl _ _ _) rfl ⟨rfl, (Below.refl _ _).alloc (Nat.le_refl _) _⟩
theorem ndB (w : World) (e : Nd) : Bx w (ndK w.heap.size e ++ []) (w.alloc (.cells #[.int .i8 e.op, .int .i8 e.len, .int .i64 e.a0, .int .i64 e.a1, .int .i64 e.a2, .int .i64 e.sort, .int .i64 e.fn, .int .i64 e.num] 53)) := (Bx.nil w).row #[.int .i8 e.op, .int .i8 e.len, .int .i64 e.a0, .int .i64 e.a1, .int .i64 e.a2, .int .i64 e.sort, .int .i64 e.fn, .int .i64 e.num] 53
theorem ndK_two {b : Nat} {e : Nd} {x : World} {K : List (Nat × Nat × Value)} (h : cellsK (ndK b e ++ K) x) : x.cell? ⟨b, 6, none⟩ = some (.int .i64 e.fn) ∧ x.cell? ⟨b, 7, none⟩ = some (.int .i64 e.num) := ⟨h.2.2.2.2.2.2.1.1, h.2.2.2.2.2.2.2.1.1⟩
set_option maxHeartbeats 1000000 in
theorem way12_any (e : Nd) (v : Value) (m : Nat) (V : Nat → Int) (w : World) (hv : IntsAt w v m V) (hm : 0 < m) (hn : R64 e.num) :
    Calls Tryz.prog 64 #[ndV e, v] w fun z w' => z = .returned (.tuple #[.int .i64 (if addOk (V 0) e.num then V 0 + e.num else 0), .bool (addOk (V 0) e.num)]) ∧ Below w.heap.size w w' := by
  obtain ⟨A, c, rfl, hmn, hR, hc⟩ := hv
  obtain ⟨b, o, rfl, hb, hcs⟩ := hc hm
  have r0 := hcs 0 hm
  have hR0 := hR 0 hm
  rw [Nat.add_zero] at r0
  have hm0 : (0 : Int) < (m : Int) := by omega
  clear hcs hc hR
  have hA := Lib.hid fun (x : World) => NAdd_any (V 0) e.num x hR0 hn
  have hx := Lib.hid (ndB w e)
  have hK := Lib.hid fun (x : World) (h : Bx w (ndK w.heap.size e ++ []) x) => show (x.cell? ⟨w.heap.size, 7, none⟩ = some (.int .i64 e.num)) ∧ x.cell? ⟨b, o, none⟩ = some (.int .i64 (V 0)) from ⟨(ndK_two h.cells).2, (h.bel.cell (p := ⟨b, o, none⟩) hb).trans r0⟩
  clear hR0 hn
  generalize V 0 = x0 at *
  generalize hs : x0 + e.num = s at *
  have hs' := Lib.hid hs
  clear hs
  generalize addOk x0 e.num = q at *
  unfold ndV
  go_enter Tryz.func64, Tryz.ntmps64
  cases q with
  | true =>
    unfold numV at hA
    rw [if_pos rfl] at hA
    go_upto_region 1 with fail
    refine region_cls (fun x => Bx w (ndK w.heap.size e ++ []) x) (by kernel_rfl) (by kernel_rfl) hx.out.drew ?_
    repeat (first
      | go_big_quiet_skip
      | (go_big_quiet_want; first
        | (go_big_quiet_op; go_big_quiet_on)
        | (unfold Oper.quiet; apply Exists.intro; refine ⟨fun x hx => ?_, ?_⟩; (obtain ⟨c0, c1⟩ := hK.out x hx; unfold Oper.quietAt; first
            | (go_simp; exact ⟨rfl, rfl⟩)
            | (go_simp; exact rfl)
            | (go_simp; done)
            | (go_simp; go_at_call 65; refine (hA.out x).mono ?_; rintro e w' ⟨rfl, hb'⟩; exact ⟨rfl, hx.step hb'⟩)
            | fail); go_simp; go_big_quiet_on)))
    refine wpQuiet_nil ?_
    rintro w8 hx8
    all_goals go_wp2_with fail
    all_goals exact bodyPost_ret (results_tmp2 rfl _ _ _) rfl ⟨rfl, hx8.bel⟩
  | false =>
    unfold numV at hA
    rw [if_neg (by simp)] at hA
    go_upto_region 1 with fail
    refine region_cls (fun x => Bx w (ndK w.heap.size e ++ []) x) (by kernel_rfl) (by kernel_rfl) hx.out.drew ?_
    repeat (first
      | go_big_quiet_skip
      | (go_big_quiet_want; first
        | (go_big_quiet_op; go_big_quiet_on)
        | (unfold Oper.quiet; apply Exists.intro; refine ⟨fun x hx => ?_, ?_⟩; (obtain ⟨c0, c1⟩ := hK.out x hx; unfold Oper.quietAt; first
            | (go_simp; exact ⟨rfl, rfl⟩)
            | (go_simp; exact rfl)
            | (go_simp; done)
            | (go_simp; go_at_call 65; refine (hA.out x).mono ?_; rintro e w' ⟨rfl, hb'⟩; exact ⟨rfl, hx.step hb'⟩)
            | fail); go_simp; go_big_quiet_on)))
    refine wpQuiet_nil ?_
    rintro w8 hx8
    all_goals go_wp2_with fail
    all_goals exact bodyPost_ret (results_tmp2 rfl _ _ _) rfl ⟨rfl, hx8.bel⟩
set_option maxHeartbeats 1000000 in
theorem way13_any (e : Nd) (v : Value) (m : Nat) (V : Nat → Int) (w : World) (hv : IntsAt w v m V) (hm : 1 < m) (hn : R64 e.num) :
    Calls Tryz.prog 66 #[ndV e, v] w fun z w' => z = .returned (.tuple #[.int .i64 (bI (atMB (V 0) (V 1) e.num)), .bool true]) ∧ Below w.heap.size w w' := by
  obtain ⟨A, c, rfl, hmn, hR, hc⟩ := hv
  obtain ⟨b, o, rfl, hb, hcs⟩ := hc (by omega)
  have r0 := hcs 0 (by omega)
  have r1 := hcs 1 (by omega)
  rw [Nat.add_zero] at r0
  have hM := Lib.hid fun (x : World) => AtMost_any (V 0) (V 1) e.num x (hR 0 (by omega)) (hR 1 (by omega)) hn
  have hm0 : (0 : Int) < (m : Int) := by omega
  have hm1 : (1 : Int) < (m : Int) := by omega
  have hm2 : 0 < m := by omega
  clear hcs hc hR hn
  generalize V 0 = x0 at *
  generalize V 1 = x1 at *
  generalize atMB x0 x1 e.num = q at *
  unfold ndV
  go_enter Tryz.func66, Tryz.ntmps66
  go_wp2_with fail
  go_quiet (first | (go_at_call 59; exact Calls.quiet_of_same (bit_any _ _)) | (go_at_call 22; exact Calls.quiet_of_same (hM.out _)))
  go_wp2_with fail
  exact bodyPost_ret (results_tmp2 rfl _ _ _) rfl ⟨rfl, below_drewN ((Below.refl _ _).alloc (Nat.le_refl _) _) _⟩
/-- A game lies at gb: a signature, a world. -/
def GameAt (x : World) (pb gb : Nat) (sv fv mv zv wv : Value) : Prop := x.cell? ⟨pb, 0, none⟩ = some (.pointer (some ⟨gb, 0, none⟩)) ∧ x.cell? ⟨gb, 0, none⟩ = some sv ∧ x.cell? ⟨gb, 1, none⟩ = some fv ∧ x.cell? ⟨gb, 2, none⟩ = some mv ∧ x.cell? ⟨gb, 3, none⟩ = some zv ∧ x.cell? ⟨gb, 4, none⟩ = some wv
set_option maxHeartbeats 1000000 in
theorem way14_any (e : Nd) (v sv fv mv zv wv : Value) (g : Sg) (W : Wd) (m : Nat) (V : Nat → Int) (pb gb : Nat) (w : World) (hv : IntsAt w v m V) (hg : GameAt w pb gb sv fv mv zv wv) (hpb : pb < w.heap.size) (hgb : gb < w.heap.size)
    (hG : SgAt w sv fv mv g) (hf : FewG g) (hW : WdAt w zv wv W) (hw : FewW W) :
    Calls Tryz.prog 67 #[ndV e, v, .pointer (some ⟨pb, 0, none⟩)] w fun z w' => z = .returned (.tuple #[.int .i64 (valT g W e.fn m V).1, .bool true]) ∧ Below w.heap.size w w' := by
  have hA := Lib.hid fun (x : World) (hb : Below w.heap.size w x) => VApp_any sv fv mv zv wv v g W e.fn m V x (hG.below hb) hf (hW.below hb) hw (hv.below hb)
  have hx := Lib.hid (ndB w e)
  have hK := Lib.hid fun (x : World) (h : Bx w (ndK w.heap.size e ++ []) x) => show (x.cell? ⟨w.heap.size, 6, none⟩ = some (.int .i64 e.fn)) ∧ (x.cell? ⟨pb, 0, none⟩ = some (.pointer (some ⟨gb, 0, none⟩)) ∧ x.cell? ⟨gb, 0, none⟩ = some sv ∧ x.cell? ⟨gb, 1, none⟩ = some fv ∧ x.cell? ⟨gb, 2, none⟩ = some mv ∧ x.cell? ⟨gb, 3, none⟩ = some zv ∧ x.cell? ⟨gb, 4, none⟩ = some wv) by
    have k : ∀ b o, b < w.heap.size → x.cell? ⟨b, o, none⟩ = w.cell? ⟨b, o, none⟩ := fun b o hb => h.bel.cell (p := ⟨b, o, none⟩) hb
    obtain ⟨g0, g1, g2, g3, g4, g5⟩ := hg
    exact ⟨(ndK_two h.cells).1, (k _ _ hpb).trans g0, (k _ _ hgb).trans g1, (k _ _ hgb).trans g2, (k _ _ hgb).trans g3, (k _ _ hgb).trans g4, (k _ _ hgb).trans g5⟩
  obtain ⟨A, c, rfl, -, -⟩ := hG.1
  obtain ⟨FA, fc, rfl, -, -⟩ := hG.2.1
  obtain ⟨MA, mc, rfl, -, -⟩ := hG.2.2
  obtain ⟨ZA, zc, rfl, -, -, -⟩ := hW.1
  obtain ⟨WA, wc, rfl, -, -⟩ := hW.2
  clear hG hf hW hw hv hg
  generalize valT g W e.fn m V = r at *
  unfold ndV
  go_enter Tryz.func67, Tryz.ntmps67
  go_upto_region 1 with fail
  refine region_cls (fun x => Bx w (ndK w.heap.size e ++ []) x) (by kernel_rfl) (by kernel_rfl) hx.out.drew ?_
  repeat (first
    | go_big_quiet_skip
    | (go_big_quiet_want; first
      | (go_big_quiet_op; go_big_quiet_on)
      | (unfold Oper.quiet; apply Exists.intro; refine ⟨fun x hx => ?_, ?_⟩; (obtain ⟨c0, c1, c2, c3, c4, c5, c6⟩ := hK.out x hx; unfold Oper.quietAt; first
          | (go_simp; exact ⟨rfl, rfl⟩)
          | (go_simp; exact rfl)
          | (go_simp; done)
          | (go_simp; go_at_call 68; refine (hA.out x hx.bel).mono ?_; rintro e w' ⟨rfl, hb'⟩; exact ⟨rfl, hx.step hb'⟩)
          | fail); go_simp; go_big_quiet_on)))
  refine wpQuiet_nil ?_
  rintro w8 hx8
  all_goals go_wp2_with fail
  all_goals exact bodyPost_ret (results_tmp2 rfl _ _ _) rfl ⟨rfl, hx8.bel⟩
theorem plain1_any (fk : Nat) (hent : ∀ args w, (callFunc fk args).run Tryz.prog w = .ok (.enter fk args) w) (e : Nd) (v : Value) (r : Int) (bx : Nat) (w : World) (hbx : w.cell? ⟨bx, 0, none⟩ = some (.func (.func fk) #[] #[])) (hb : bx < w.heap.size)
    (hcall : ∀ x, Below w.heap.size w x → Calls Tryz.prog fk #[v] x fun z w' => z = .returned (.int .i64 r) ∧ Below x.heap.size x w') :
    Calls Tryz.prog 105 #[ndV e, v, .pointer (some ⟨bx, 0, none⟩)] w fun z w' => z = .returned (.tuple #[.int .i64 r, .bool true]) ∧ Below w.heap.size w w' := by
  have hx := Lib.hid (ndB w e)
  have hC := Lib.hid (hcall _ hx.out.bel)
  clear hcall
  unfold ndV
  go_enter Tryz.func105, Tryz.ntmps105
  go_wp2_with fail
  refine hC.out.mono ?_
  rintro z w2 ⟨rfl, hb2⟩
  have hx2 := Lib.hid (hx.out.step hb2)
  go_wp2_with fail
  exact bodyPost_ret (results_tmp2 rfl _ _ _) rfl ⟨rfl, hx2.out.bel⟩
end Go.Proofs.YtlhnffmbjejphaaGreat
