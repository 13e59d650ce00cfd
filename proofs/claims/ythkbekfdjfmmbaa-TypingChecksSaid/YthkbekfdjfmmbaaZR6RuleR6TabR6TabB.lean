/- gantryref06.rule. -/
import Derived.Test.YthkbekfdjfmmbaaZR6App
import Derived.Test.YthkbekfdjfmmbaaZTyKTyN
import Derived.Deep.RegionLawGrows
import Derived.Test.YthkbekfdjfmmbaaZRPut
import Derived.Test.YthkbekfdjfmmbaaZClsW
namespace Go.Proofs.Ythkbekfdjfmmbaa
open Go.RowKit
set_option maxRecDepth 100000

/-- What rule answers: an application's error is that of sorts. -/
def ruleT (g : Sg) (N : Nat → Nd) (e : Nd) : Int × Int := if e.op = 13 then (if (nodeT g N e).2 = 0 then nodeT g N e else (0, 33)) else nodeT g N e
theorem rule_ok (g : Sg) (N : Nat → Nd) (e : Nd) : ((ruleT g N e).2 == 0) = ((nodeT g N e).2 == 0) ∧ ((nodeT g N e).2 = 0 → ruleT g N e = nodeT g N e) := by
  unfold ruleT
  by_cases h : e.op = 13
  · rw [if_pos h]
    by_cases h2 : (nodeT g N e).2 = 0
    · rw [if_pos h2]; exact ⟨rfl, fun _ => rfl⟩
    · rw [if_neg h2]
      exact ⟨by rw [show ((0 : Int), (33 : Int)).2 = 33 from rfl]; simp; exact fun e => h2 e, fun e => absurd e h2⟩
  · rw [if_neg h]; exact ⟨rfl, fun _ => rfl⟩
def intC (S : Nat → Int) (i : Nat) : List Value := [.int .i64 (S i)]
theorem OwnG.ints {w : World} {base n : Nat} {v : Value} {S : Nat → Int} (h : OwnG w base 3 1 v n (intC S)) (hn : n ≤ 9223372036854775807) (hS : ∀ i, i < n → R64 (S i)) : IntsAt w v n S := by
  obtain ⟨A, c, rfl, _, hc⟩ := h.at_ (fun _ => rfl)
  refine ⟨A, c, rfl, hn, hS, fun h0 => ?_⟩
  obtain ⟨b, o, rfl, hb, hcell⟩ := hc h0
  exact ⟨b, o, rfl, hb, fun i hi => by
    have := hcell i hi 0 _ rfl
    simpa using this⟩
theorem soK_args {w x : World} {sv fv mv tv : Value} {e : Nd} (h : Bx w (soK w sv fv mv tv e) x) : x.cell? ⟨w.heap.size + 2, 0, none⟩ = some (.int .i8 e.op) ∧ x.cell? ⟨w.heap.size + 2, 1, none⟩ = some (.int .i8 e.len) ∧ x.cell? ⟨w.heap.size + 2, 6, none⟩ = some (.int .i64 e.fn) ∧ x.cell? ⟨w.heap.size + 1, 0, none⟩ = some tv ∧ x.cell? ⟨w.heap.size, 0, none⟩ = some sv ∧ x.cell? ⟨w.heap.size, 1, none⟩ = some fv ∧ x.cell? ⟨w.heap.size, 2, none⟩ = some mv := by
  obtain ⟨h0, h1, h2, h3, h4, h5, h6, h7, h8, h9, _⟩ := h.cells
  exact ⟨h0.1, h1.1, h5.1, h6.1, h7.1, h8.1, h9.1⟩
set_option maxHeartbeats 8000000 in
theorem RRule_any (sv fv mv tv : Value) (g : Sg) (n : Nat) (N : Nat → Nd) (e : Nd) (w : World) (hG : SgAt w sv fv mv g) (hv : NdsAt w tv n N) (he : InT n e) :
    Calls Try.prog 58 #[.agg #[sv, fv, mv], .agg #[tv], ndV e] w fun z w' => z = .returned (opV (ruleT g N e)) ∧ Below w.heap.size w w' := by
  have hG' := Lib.hid hG
  obtain ⟨A, c, rfl, -, -⟩ := hG.1
  obtain ⟨FA, fc, rfl, -, -⟩ := hG.2.1
  obtain ⟨MA, mc, rfl, -, -⟩ := hG.2.2
  have hv' := Lib.hid hv
  obtain ⟨TA, tc, rfl, hcap, hRn, hcs⟩ := hv
  have hcs' := Lib.hid hcs
  have hRn' := Lib.hid hRn
  have he' := Lib.hid he
  have hx := Lib.hid (soK_bx w (.slice A g.ns c) (.slice FA g.nf fc) (.slice MA g.nm mc) (.slice TA n tc) e)
  have hl0 := he.len0
  have hl3 := he.len3
  obtain ⟨m, hm⟩ : ∃ m : Nat, e.len = m := ⟨e.len.toNat, by omega⟩
  have hT : Hid (nodeT g N e = if e.op = 13 then appT g e.fn m (sortsN N e) else opT e.op m (sortsN N e)) := by unfold Hid nodeT; rw [hm]; rfl
  have hRT : Hid (ruleT g N e = if e.op = 13 then (if (nodeT g N e).2 = 0 then nodeT g N e else (0, 33)) else nodeT g N e) := rfl
  have hwl : IntKind.i64.wrap e.len = e.len := by rw [IntKind.wrap_i64]; omega
  have hal : Try.prog.arrayLen 27 = 3 := by kernel_rfl
  clear hG hcs hRn he
  unfold ndV
  go_enter Try.func58, Try.ntmps58
  have hm0 : (0 : Int) ≤ (m : Int) := by omega
  have hm3 : m ≤ 3 := by omega
  have hm' := Lib.hid hm
  have hSR : Hid (∀ j, j < m → 0 ≤ e.arg j ∧ (e.arg j).toNat < n ∧ R64 (sortsN N e j)) := fun j hj => by
    have := he'.out.arg j (by rw [hm'.out]; omega)
    refine ⟨this.1, by omega, (hRn'.out _ (by omega)).sort⟩
  clear hm
  go_wp2_with fail
  go_loopw [8, 9] (fun z i wr => ∃ j : Nat, j ≤ m ∧ i = .int .i64 j ∧ Hid (OwnG wr (w.heap.size + 3) 3 1 z j (intC (sortsN N e))) ∧ Hid (Bx w (soK w (.slice A g.ns c) (.slice FA g.nf fc) (.slice MA g.nm mc) (.slice TA n tc) e) wr)) (fun _ i _ => m - (intOf i).toNat)
  case atStart => exact ⟨0, Nat.zero_le _, rfl, OwnG.nil _ _ _ _ _, hx.out⟩
  case round =>
    clear hx
    obtain ⟨j, hj, rfl, hown, hx⟩ := hrel
    obtain ⟨k0, k1, k2, k3, k4, k5, k6⟩ := soK_args hx.out
    rw [hm'.out] at k1
    have hwm : IntKind.i64.wrap (m : Int) = (m : Int) := by rw [IntKind.wrap_i64]; omega
    by_cases hlt : j < m
    · have i1 : decide ((j : Int) < (m : Int)) = true := decide_eq_true (by omega)
      have pj := arg_cell hx.out (j := j) (by omega)
      obtain ⟨ha0, han, hR⟩ := hSR.out j hlt
      obtain ⟨aj, haj⟩ : ∃ aj : Nat, e.arg j = aj := ⟨(e.arg j).toNat, by omega⟩
      have han' : aj < n := by rw [haj] at han; omega
      obtain ⟨b, o, rfl, hbl, hcs⟩ := hcs'.out (by omega)
      obtain ⟨_, _, _, _, _, q5, _, _⟩ := hcs aj han'
      have q := (hx.out.bel.cell (p := ⟨b, o + aj * 8 + 5, none⟩) hbl).trans q5
      have hsj : sortsN N e j = (N aj).sort := by unfold sortsN; rw [haj]; rfl
      rw [haj] at pj
      have hj0 : (0 : Int) ≤ (j : Int) := by omega
      have hj3 : (j : Int) < 3 := by omega
      have hj3n : j < 3 := by omega
      have ha0' : (0 : Int) ≤ (aj : Int) := by omega
      have han2 : (aj : Int) < (n : Int) := by omega
      have hjm : j ≤ 1000000 := by omega
      have hz := hx.out.cells.1.2
      clear hcs q5 ha0 han haj hR
      have hxA := Lib.hid (hx.out.step (((Below.refl wr.heap.size wr).alloc (Nat.le_refl _) (.cells #[.int .i64 (N aj).sort] 3)).drew))
      have hoA := Lib.hid (hown.out.below (((Below.refl wr.heap.size wr).alloc (Nat.le_refl _) (.cells #[.int .i64 (N aj).sort] 3)).drew) (Nat.le_refl _))
      have hcA : Hid (∀ r u, (intC (sortsN N e) j)[r]? = some u → (wr.alloc (.cells #[.int .i64 (N aj).sort] 3)).drew.cell? ⟨wr.heap.size, r, none⟩ = some u) := fun r u hu => lit_cells wr 3 [.int .i64 (N aj).sort] r u (by rw [intC, hsj] at hu; exact hu)
      have h1A : Hid (∀ u ∈ intC (sortsN N e) j, u.oneCell' = true) := fun u hu => by simp [intC] at hu; subst hu; rfl
      have hbA : Hid (w.heap.size + 3 ≤ (wr.alloc (.cells #[.int .i64 (N aj).sort] 3)).drew.heap.size) := by show _ ≤ (wr.alloc _).heap.size; simp; omega
      obtain ⟨i0, hi, hz0, hz1, hz2⟩ := info_parts info_int
      have hi' := Lib.hid hi
      have hz0' := Lib.hid hz0
      have hz1' := Lib.hid hz1
      have hz2' := Lib.hid hz2
      clear hi hz0 hz1 hz2 hsj hz
      go_wp2_with fail
      go_region_law (refine step_appRow rfl (.tmp 19) (.tmp 29) 52 3 rfl i0 _ 8 1 Try.underlying52 hi'.out hz0'.out hz1'.out hz2'.out rfl (by decide) (w.heap.size + 3) _ j (intC (sortsN N e)) rfl hoA.out wr.heap.size 1 rfl (by simp) (fun _ => rfl) hcA.out h1A.out hjm (by decide) hbA.out ?_; intro v' w7 hown7 hb7 hg7; have ho7 := Lib.hid hown7; have hx7 := Lib.hid (hxA.out.under hb7 soK_lt (by omega)); clear hown7 hb7 hg7)
      all_goals go_wp2_with fail
      all_goals go_roundw
      all_goals (first
        | exact ⟨j + 1, by omega, by go_num, ho7.out, hx7.out⟩
        | (simp [intOf]; omega)
        | skip)
    · have i1 : decide ((j : Int) < (m : Int)) = false := decide_eq_false (by omega)
      obtain rfl : j = m := by omega
      have hli := Lib.hid (hown.out.ints (by omega) (fun i hi => (hSR.out i hi).2.2))
      clear hown
      by_cases h13 : e.op = 13
      · have d13 : (e.op == 13) = true := by simpa using h13
        have hT2 : Hid (nodeT g N e = appT g e.fn j (sortsN N e)) := by unfold Hid; rw [hT.out, if_pos h13]
        have hRT2 : Hid (ruleT g N e = (if (nodeT g N e).2 = 0 then nodeT g N e else (0, 33))) := by unfold Hid; rw [hRT.out, if_pos h13]
        clear h13 hT hRT
        go_wp2_with fail
        refine (RTApp_any _ _ _ g e.fn _ j (sortsN N e) wr (hG'.out.below hx.out.bel) hli.out).mono ?_
        rintro z w5 ⟨rfl, hb5⟩
        have hx5 := Lib.hid (hx.out.step hb5)
        rw [← hT2.out]
        unfold opV
        generalize nodeT g N e = p at *
        obtain ⟨p1, p2⟩ := p
        dsimp only at hRT2 ⊢
        clear hb5 k0 k1 k2 k3 k4 k5 k6
        by_cases h0 : p2 = 0
        · have d0 : (p2 != 0) = false := by simpa using h0
          have hF : Hid (ruleT g N e = (p1, 0)) := by unfold Hid; rw [hRT2.out, if_pos h0, h0]
          clear h0
          go_wp2_with fail
          exact bodyPost_ret (results_tmp2 rfl _ _ _) rfl ⟨by rw [hF.out]; rfl, hx5.out.bel⟩
        · have d0 : (p2 != 0) = true := by simpa using h0
          have hF : Hid (ruleT g N e = (0, 33)) := by unfold Hid; rw [hRT2.out, if_neg h0]
          clear h0
          go_wp2_with fail
          exact bodyPost_ret (results_tmp2 rfl _ _ _) rfl ⟨by rw [hF.out]; rfl, hx5.out.bel⟩
      · have d13 : (e.op == 13) = false := by simpa using h13
        have hT2 : Hid (nodeT g N e = opT e.op j (sortsN N e)) := by unfold Hid; rw [hT.out, if_neg h13]
        have hRT2 : Hid (ruleT g N e = nodeT g N e) := by unfold Hid; rw [hRT.out, if_neg h13]
        clear h13 hT hRT
        go_wp2_with fail
        refine (RTOp_any e.op _ j (sortsN N e) wr he'.out.R.op hli.out).mono ?_
        rintro z w5 ⟨rfl, hb5⟩
        have hx5 := Lib.hid (hx.out.step hb5)
        rw [← hT2.out]
        unfold opV
        go_wp2_with fail
        exact bodyPost_ret (results_tmp2 rfl _ _ _) rfl ⟨by rw [hRT2.out]; rfl, hx5.out.bel⟩
end Go.Proofs.Ythkbekfdjfmmbaa

namespace Go.Proofs.Ythkbekfdjfmmbaa
open Go.RowKit
set_option maxRecDepth 100000

theorem nfK_cells {w x : World} {v : Value} {e : Nd} (h : Bx w (nfK w v e) x) : x.cell? ⟨w.heap.size, 0, none⟩ = some v ∧ x.cell? ⟨w.heap.size + 1, 0, none⟩ = some (.int .i8 e.op) ∧ x.cell? ⟨w.heap.size + 1, 1, none⟩ = some (.int .i8 e.len) ∧ x.cell? ⟨w.heap.size + 1, 2, none⟩ = some (.int .i64 e.a0) ∧ x.cell? ⟨w.heap.size + 1, 3, none⟩ = some (.int .i64 e.a1) ∧ x.cell? ⟨w.heap.size + 1, 4, none⟩ = some (.int .i64 e.a2)
      ∧ x.cell? ⟨w.heap.size + 1, 5, none⟩ = some (.int .i64 e.sort) ∧ x.cell? ⟨w.heap.size + 1, 6, none⟩ = some (.int .i64 e.fn) ∧ x.cell? ⟨w.heap.size + 1, 7, none⟩ = some (.int .i64 e.num) := by
  obtain ⟨h0, h1, h2, h3, h4, h5, h6, h7, h8, _⟩ := h.cells
  exact ⟨h0.1, h1.1, h2.1, h3.1, h4.1, h5.1, h6.1, h7.1, h8.1⟩
set_option maxHeartbeats 4000000 in
theorem R6Stands_any (tv : Value) (n : Nat) (N : Nat → Nd) (e : Nd) (w : World) (hv : NdsAt w tv n N) (hn : n ≤ 999999) (he : NdR e) :
    Calls Try.prog 57 #[.agg #[tv], ndV e] w fun z w' => z = .returned (.bool (checkB n N && standsB e n)) ∧ Below w.heap.size w w' := by
  have hv' := Lib.hid hv
  have he' := Lib.hid he
  obtain ⟨TA, tc, rfl, hcap, _, _⟩ := hv
  have hx := Lib.hid (nfK_bx w (.slice TA n tc) e)
  have hP := Lib.hid (RPut_any _ n N e ((n : Int) + 1) _ (hv'.out.below hx.out.bel) (by omega) he'.out (by unfold R64; omega))
  obtain ⟨k0, k1, k2, k3, k4, k5, k6, k7, k8⟩ := nfK_cells hx.out
  unfold ndV at hP
  clear he
  unfold ndV
  go_enter Try.func57, Try.ntmps57
  go_wp2_with fail
  refine hP.out.mono ?_
  rintro z w2 ⟨v2, m, M, at_, er, rfl, hPR, hN2, hb2⟩
  have hx2 := Lib.hid (hx.out.step hb2)
  have hq := Lib.hid (put_may hPR)
  obtain ⟨_, _, rfl, _, _, _⟩ := hN2
  clear hPR hb2 k0 k1 k2 k3 k4 k5 k6 k7 k8
  go_wp2_with fail
  go_ret
  exact ⟨by rw [← hq.out]; rfl, (hx2.out.skip _).bel⟩
theorem okNd_rule (g : Sg) (N : Nat → Nd) (e : Nd) : okNd g N e = (((ruleT g N e).2 == 0) && ((ruleT g N e).1 == e.sort)) := by
  obtain ⟨h1, h2⟩ := rule_ok g N e
  unfold okNd
  rw [h1]
  cases h : (nodeT g N e).2 == 0 with
  | false => rfl
  | true => rw [h2 (by simpa using h)]
set_option maxHeartbeats 8000000 in
theorem R6Node_any (sv fv mv tv : Value) (g : Sg) (n : Nat) (N : Nat → Nd) (e : Nd) (w : World) (hG : SgAt w sv fv mv g) (hv : NdsAt w tv n N) (hn : n ≤ 999999) (he : NdR e) :
    Calls Try.prog 28 #[.agg #[sv, fv, mv], .agg #[tv], ndV e] w fun z w' => z = .returned (.int .i64 (nodeE g n N e)) ∧ Below w.heap.size w w' := by
  have hG' := Lib.hid hG
  obtain ⟨A, c, rfl, -, -⟩ := hG.1
  obtain ⟨FA, fc, rfl, -, -⟩ := hG.2.1
  obtain ⟨MA, mc, rfl, -, -⟩ := hG.2.2
  have hv' := Lib.hid hv
  have he' := Lib.hid he
  obtain ⟨TA, tc, rfl, hcap, _, _⟩ := hv
  have hx := Lib.hid (sgK_bx w (.slice A g.ns c) (.slice FA g.nf fc) (.slice MA g.nm mc) (.slice TA n tc) e)
  have hC := Lib.hid (RCheck4_any _ _ _ g _ (hG'.out.below hx.out.bel))
  have hCt := Lib.hid fun (x : World) (hb : Below w.heap.size w x) => RCheck_any _ n N x (hv'.out.below hb) (by omega)
  have hSt := Lib.hid fun (x : World) (hb : Below w.heap.size w x) => R6Stands_any _ n N e x (hv'.out.below hb) hn he'.out
  have hRu := Lib.hid fun (hin : InT n e) (x : World) (hb : Below w.heap.size w x) => RRule_any _ _ _ _ g n N e x (hG'.out.below hb) (hv'.out.below hb) hin
  have hR : Hid (nodeE g n N e = if mayT g n N e = false then 2 else if okNd g N e = true then 0 else 33) := rfl
  have hmT : Hid (mayT g n N e = (checkG g && (checkB n N && standsB e n))) := rfl
  have hmi := Lib.hid fun h => may_in (g := g) (n := n) (N := N) he h
  have ht := Lib.hid (check_cases n N)
  have hok := Lib.hid (okNd_rule g N e)
  obtain ⟨k0, k1, k2, k3, k4, k5, k6, k7, k8, k9, k10, k11⟩ := sgK_cells hx.out
  unfold ndV at hSt hRu
  clear hG he
  unfold ndV
  go_enter Try.func28, Try.ntmps28
  go_wp2_with fail
  refine hC.out.mono ?_
  rintro z w1 ⟨rfl, hb1⟩
  have hx1 := Lib.hid (hx.out.step hb1)
  clear hb1 hC hx k0 k1 k2 k3 k4 k5 k6 k7 k8 k9 k10 k11
  obtain ⟨k0, k1, k2, k3, k4, k5, k6, k7, k8, k9, k10, k11⟩ := sgK_cells hx1.out
  cases hk : checkG g with
  | false =>
    have hF : Hid (nodeE g n N e = 2) := by unfold Hid; rw [hR.out, hmT.out, hk]; rfl
    unfold chV
    go_wp2_with fail
    go_ret
    exact ⟨by rw [hF.out]; rfl, hx1.out.bel⟩
  | true =>
  have hk' := Lib.hid hk
  clear hk
  unfold chV
  go_wp2_with fail
  refine (hCt.out _ hx1.out.bel).mono ?_
  rintro z w2 ⟨rfl, hb2⟩
  have hx2 := Lib.hid (hx1.out.step hb2)
  clear hb2 hx1 k0 k1 k2 k3 k4 k5 k6 k7 k8 k9 k10 k11
  obtain ⟨k0, k1, k2, k3, k4, k5, k6, k7, k8, k9, k10, k11⟩ := sgK_cells hx2.out
  by_cases hck : checkT n N = 0
  case neg =>
    have hck2 := ht.out.resolve_left hck
    have hF : Hid (nodeE g n N e = 2) := by
      unfold Hid
      rw [hR.out, hmT.out, checkB_no' (fun h => hck (check_yes h))]
      simp
    rw [hck2]
    clear hck hck2
    go_wp2_with fail
    go_ret
    exact ⟨by rw [hF.out]; rfl, hx2.out.bel⟩
  have hcB := checkB_yes' (check_zero hck)
  rw [hck]
  rw [hcB] at hmT
  go_wp2_with fail
  refine (hSt.out _ hx2.out.bel).mono ?_
  rintro z w3 ⟨rfl, hb3⟩
  have hx3 := Lib.hid (hx2.out.step hb3)
  rw [hcB, Bool.true_and]
  rw [hk'.out, Bool.true_and, Bool.true_and] at hmT
  clear hb3 hx2 hcB hck k0 k1 k2 k3 k4 k5 k6 k7 k8 k9 k10 k11
  obtain ⟨k0, k1, k2, k3, k4, k5, k6, k7, k8, k9, k10, k11⟩ := sgK_cells hx3.out
  cases hs : standsB e n with
  | false =>
    have hF : Hid (nodeE g n N e = 2) := by unfold Hid; rw [hR.out, hmT.out, hs]; rfl
    go_wp2_with fail
    go_ret
    exact ⟨by rw [hF.out]; rfl, hx3.out.bel⟩
  | true =>
  have hin := Lib.hid (hmi.out (by rw [hmT.out, hs]))
  have hR2 : Hid (nodeE g n N e = if okNd g N e = true then 0 else 33) := by unfold Hid; rw [hR.out, hmT.out, hs]; rfl
  clear hs hR hmT hmi
  go_wp2_with fail
  refine (hRu.out hin.out _ hx3.out.bel).mono ?_
  rintro z w4 ⟨rfl, hb4⟩
  have hx4 := Lib.hid (hx3.out.step hb4)
  clear hb4 hx3 k0 k1 k2 k3 k4 k5 k6 k7 k8 k9 k10 k11
  obtain ⟨k0, k1, k2, k3, k4, k5, k6, k7, k8, k9, k10, k11⟩ := sgK_cells hx4.out
  unfold opV
  generalize ruleT g N e = p at *
  obtain ⟨p1, p2⟩ := p
  dsimp only at hok ⊢
  cases h1 : p2 == 0 with
  | false =>
    have d1 : (p2 != 0) = true := by rw [bne, h1]; rfl
    have hF : Hid (nodeE g n N e = 33) := by unfold Hid; rw [hR2.out, hok.out, h1]; rfl
    go_wp2_with fail
    go_ret
    exact ⟨by rw [hF.out]; rfl, hx4.out.bel⟩
  | true =>
    have d1 : (p2 != 0) = false := by rw [bne, h1]; rfl
    cases h2 : p1 == e.sort with
    | true =>
      have d2 : (p1 != e.sort) = false := by rw [bne, h2]; rfl
      have hF : Hid (nodeE g n N e = 0) := by unfold Hid; rw [hR2.out, hok.out, h1, h2]; rfl
      go_wp2_with fail
      go_ret
      exact ⟨by rw [hF.out]; rfl, hx4.out.bel⟩
    | false =>
      have d2 : (p1 != e.sort) = true := by rw [bne, h2]; rfl
      have hF : Hid (nodeE g n N e = 33) := by unfold Hid; rw [hR2.out, hok.out, h1, h2]; rfl
      go_wp2_with fail
      go_ret
      exact ⟨by rw [hF.out]; rfl, hx4.out.bel⟩
end Go.Proofs.Ythkbekfdjfmmbaa

namespace Go.Proofs.Ythkbekfdjfmmbaa
open Go.RowKit
set_option maxRecDepth 100000

set_option maxHeartbeats 8000000 in
theorem R6Table_any (sv fv mv tv : Value) (g : Sg) (n : Nat) (N : Nat → Nd) (w : World) (hG : SgAt w sv fv mv g) (hv : NdsAt w tv n N) (hn : n ≤ 1000000) :
    Calls Try.prog 30 #[.agg #[sv, fv, mv], .agg #[tv]] w fun z w' => z = .returned (.int .i64 (tabT g n N)) ∧ Below w.heap.size w w' := by
  have hG' := Lib.hid hG
  obtain ⟨A, c, rfl, -, -⟩ := hG.1
  obtain ⟨FA, fc, rfl, -, -⟩ := hG.2.1
  obtain ⟨MA, mc, rfl, -, -⟩ := hG.2.2
  have hv' := Lib.hid hv
  obtain ⟨TA, tc, rfl, hcap, hRn, hcs⟩ := hv
  have hcs' := Lib.hid hcs
  have hRn' := Lib.hid hRn
  have hx := Lib.hid (toK_bx w (.slice A g.ns c) (.slice FA g.nf fc) (.slice MA g.nm mc) (.slice TA n tc))
  have hC := Lib.hid (RCheck4_any _ _ _ g _ (hG'.out.below hx.out.bel))
  have hCt := Lib.hid fun (x : World) (hb : Below w.heap.size w x) => RCheck_any _ n N x (hv'.out.below hb) hn
  have hR : Hid (tabT g n N = if checkG g = false then 2 else if checkT n N ≠ 0 then 2 else if upTo n (fun i => okNd g N (N i)) = true then 0 else 33) := rfl
  have ht := Lib.hid (check_cases n N)
  clear hcs hRn hG
  obtain ⟨⟨k0, -⟩, ⟨k1, -⟩, ⟨k2, -⟩, ⟨k3, -⟩, -⟩ := hx.out.cells
  go_enter Try.func30, Try.ntmps30
  go_wp2_with fail
  refine hC.out.mono ?_
  rintro e w1 ⟨rfl, hb1⟩
  have hx1 := Lib.hid (hx.out.step hb1)
  clear hb1 hC hx k0 k1 k2 k3
  obtain ⟨⟨k0, -⟩, ⟨k1, -⟩, ⟨k2, -⟩, ⟨k3, -⟩, -⟩ := hx1.out.cells
  cases hk : checkG g with
  | false =>
    have hF : Hid (tabT g n N = 2) := by unfold Hid; rw [hR.out, if_pos hk]
    unfold chV
    go_wp2_with fail
    go_ret
    exact ⟨by rw [hF.out]; rfl, hx1.out.bel⟩
  | true =>
  rw [hk] at hR
  clear hk
  unfold chV
  go_wp2_with fail
  refine (hCt.out _ hx1.out.bel).mono ?_
  rintro e w2 ⟨rfl, hb2⟩
  have hx2 := Lib.hid (hx1.out.step hb2)
  clear hb2 hx1 k0 k1 k2 k3
  obtain ⟨⟨k0, -⟩, ⟨k1, -⟩, ⟨k2, -⟩, ⟨k3, -⟩, -⟩ := hx2.out.cells
  by_cases hck : checkT n N = 0
  case neg =>
    have hck2 := ht.out.resolve_left hck
    have hF : Hid (tabT g n N = 2) := by unfold Hid; rw [hR.out, if_neg (by simp), if_pos hck]
    rw [hck2]
    clear hck hck2
    go_wp2_with fail
    go_ret
    exact ⟨by rw [hF.out]; rfl, hx2.out.bel⟩
  have hR3 : Hid (tabT g n N = if upTo n (fun i => okNd g N (N i)) = true then 0 else 33) := by unfold Hid; rw [hR.out, if_neg (by simp), if_neg (fun h => h hck)]
  have hcp := Lib.hid (check_zero hck)
  have hyes : Hid ((∀ i, i < n → okNd g N (N i) = true) → tabT g n N = 0) := fun h => by rw [hR3.out, if_pos (upTo_yes h)]
  have hno : Hid (∀ i, i < n → okNd g N (N i) = false → tabT g n N = 33) := fun i hi h => by rw [hR3.out, if_neg (by rw [upTo_no hi h]; simp)]
  have hok := Lib.hid fun e => okNd_rule g N e
  rw [hck]
  clear hck hR hR3
  go_wp2_with fail
  clear k0 k1 k2 k3
  go_loopw [5, 6, 7] (fun i _ _ wr => ∃ j : Nat, j ≤ n ∧ i = .int .i64 j ∧ Hid (∀ k, k < j → okNd g N (N k) = true) ∧ Hid (Bx w (toK w (.slice A g.ns c) (.slice FA g.nf fc) (.slice MA g.nm mc) (.slice TA n tc)) wr)) (fun i _ _ _ => n - (intOf i).toNat)
  case atStart => exact ⟨0, Nat.zero_le _, rfl, fun k hk => absurd hk (Nat.not_lt_zero _), hx2.out⟩
  case round =>
    clear hx2
    obtain ⟨j, hj, rfl, hall, hx⟩ := hrel
    obtain ⟨⟨k0, -⟩, ⟨k1, -⟩, ⟨k2, -⟩, ⟨k3, -⟩, -⟩ := hx.out.cells
    by_cases hlt : j < n
    · have i1 : decide ((j : Int) < (n : Int)) = true := decide_eq_true (by omega)
      obtain ⟨b, o, rfl, hbl, hcs⟩ := hcs'.out (by omega)
      have hin := Lib.hid (InT.of (n := n) (hRn'.out j hlt) (hcp.out.all j hlt) (Int.ofNat_le.2 (Nat.le_of_lt hlt)))
      have hK := Lib.hid fun (x : World) (h : Bx w (toK w (.slice A g.ns c) (.slice FA g.nf fc) (.slice MA g.nm mc) (.slice (some ⟨b, o, none⟩) n tc)) x) => (⟨h.cells.1.1, h.cells.2.1.1, h.cells.2.2.1.1, h.cells.2.2.2.1.1, (hcs j hlt).below h.bel hbl⟩ : _ ∧ _ ∧ _ ∧ _ ∧ NdIn x b (o + j * 8) (N j))
      have hRu := Lib.hid fun (x : World) (hb : Below w.heap.size w x) => RRule_any _ _ _ _ g n N (N j) x (hG'.out.below hb) (hv'.out.below hb) hin.out
      have hokj := hok.out (N j)
      unfold ndV at hRu
      unfold opV at hRu
      unfold NdIn at hK
      generalize ruleT g N (N j) = p at *
      obtain ⟨p1, p2⟩ := p
      dsimp only at hokj hRu
      have hokj' := Lib.hid hokj
      have hj0 : (0 : Int) ≤ (j : Int) := by omega
      have hjn : (j : Int) < (n : Int) := by omega
      have hjd : decide (n ≤ j) = false := decide_eq_false (by omega)
      clear hcs hin hokj
      go_upto_region 6 with fail
      refine region_cls (fun x => Bx w (toK w (.slice A g.ns c) (.slice FA g.nf fc) (.slice MA g.nm mc) (.slice (some ⟨b, o, none⟩) n tc)) x) (by kernel_rfl) (by kernel_rfl) hx.out.drew ?_
      repeat (first
        | go_big_quiet_skip
        | (go_big_quiet_want; first
          | (go_big_quiet_op; go_big_quiet_on)
          | (unfold Oper.quiet; apply Exists.intro; refine ⟨fun x hx => ?_, ?_⟩; (obtain ⟨c0, c1, c2, c3, p0, p1, p2, p3, p4, p5, p6, p7⟩ := hK.out x hx; unfold Oper.quietAt; first
              | (go_simp; exact ⟨rfl, rfl⟩)
              | (go_simp; exact rfl)
              | (go_simp; done)
              | (go_simp; go_at_call 58; refine (hRu.out x hx.bel).mono ?_; rintro e w' ⟨rfl, hb'⟩; exact ⟨rfl, hx.step hb'⟩)
              | fail); go_simp; go_big_quiet_on)))
      refine wpQuiet_nil ?_
      rintro w6 hx6
      have hx6' := Lib.hid hx6
      clear hx6 hx k0 k1 k2 k3
      obtain ⟨k0, k1, k2, k3, q0, q1, q2, q3, q4, q5, q6, q7⟩ := hK.out w6 hx6'.out
      clear hK hRu
      cases h1 : p2 == 0 with
      | true =>
        have d1 : (p2 != 0) = false := by rw [bne, h1]; rfl
        cases h2 : p1 == (N j).sort with
        | true =>
          have h3 : (p1 != (N j).sort) = false := by rw [bne, h2]; rfl
          have hyj : Hid (okNd g N (N j) = true) := by unfold Hid; rw [hokj'.out, h1, h2]; rfl
          go_wp2_with fail
          go_roundw
          case rel => exact ⟨j + 1, by omega, by go_num, fun k hk => by
            by_cases e : k = j
            · subst e; exact hyj.out
            · exact hall.out k (by omega), hx6'.out⟩
          case measure => simp [intOf]; omega
        | false =>
          have h3 : (p1 != (N j).sort) = true := by rw [bne, h2]; rfl
          have hnj : Hid (tabT g n N = 33) := hno.out j hlt (by rw [hokj'.out, h1, h2]; rfl)
          go_wp2_with fail
          go_ret
          exact ⟨by rw [hnj.out]; rfl, hx6'.out.bel⟩
      | false =>
        have d1 : (p2 != 0) = true := by rw [bne, h1]; rfl
        have hnj : Hid (tabT g n N = 33) := hno.out j hlt (by rw [hokj'.out, h1]; rfl)
        go_wp2_with fail
        go_ret
        exact ⟨by rw [hnj.out]; rfl, hx6'.out.bel⟩
    · have i1 : decide ((j : Int) < (n : Int)) = false := decide_eq_false (by omega)
      have hy := Lib.hid (hyes.out fun i hi => hall.out i (by omega))
      go_wp2_with fail
      go_ret
      exact ⟨by rw [hy.out]; rfl, hx.out.bel⟩
end Go.Proofs.Ythkbekfdjfmmbaa
