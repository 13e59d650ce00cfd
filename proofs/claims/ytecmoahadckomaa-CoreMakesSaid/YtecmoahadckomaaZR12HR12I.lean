/- gantryref12.image: kinds with one call behind a drawn order. (Printed by wip/r12img.gen.py.) -/
import Derived.Test.YtecmoahadckomaaZR12GR12Ga
namespace Go.Proofs.Ytecmoahadckomaa
open Go.RowKit Go.Maps
set_option maxRecDepth 1000000
section
variable {w : World} {v vl : Value} {n : Nat} {N : Nat → Nd} {e : Nd} {V : Nat → Int} {most : Int}

set_option maxHeartbeats 8000000 in
theorem R12img_not (H : ImH w v vl n N e V most) (ho : e.op = 1) : Calls Try.prog 49 #[.agg #[v], ndV e, vl, .int .i64 most] w (RfPost (WayR most ⟨n, N, 0⟩ e V) w) := by
  have hk : e.len.toNat = 1 := H.alen ho (by decide) rfl
  have hC := Lib.hid (fun (x : World) (hb : Below w.heap.size w x) => (R12not_any v n N (V 0) most x (H.v.below hb) (by have := H.few; omega) (H.ins 0 (by omega)) H.most).mono (RfPost.to (fun s' x hp => WayR.neg ho s' x hp)))
  have hvl := H.vl
  rw [hk] at hvl
  obtain ⟨ub, uo, cu, rfl, hub, hc⟩ := ints_open hvl (by omega)
  have v0 := Lib.hid (hc 0 (by omega))
  rw [Nat.add_zero] at v0
  obtain ⟨TA, c, rfl, -, -, -⟩ := H.v
  have hx1 := Lib.hid (ImB.start w TA n c e)
  have ho' := Lib.hid ho
  clear H ho hvl hc hk
  unfold ndV
  go_enter Try.func49, Try.ntmps49
  go_upto_region 1 with fail
  generalize hW1 : ((w.alloc (.cells #[.slice TA n c] 24)).alloc (.cells #[.int .i8 e.op, .int .i8 e.len, .int .i64 e.a0, .int .i64 e.a1, .int .i64 e.a2, .int .i64 e.sort, .int .i64 e.fn, .int .i64 e.num] 39)).alloc (.cells #[.slice none 0 0] 24) = w1 at *
  clear hW1
  have c0 := hx1.out.nd.1
  rw [ho'.out] at c0
  go_upto_region 9 with fail
  clear c0
  have hKp : ∀ {x : World} {u : Value}, ImB w e (.slice TA n c) u x → (x.cell? ⟨w.heap.size, 0, none⟩ = some (.slice TA n c) ∧ x.cell? ⟨ub, uo, none⟩ = some (.int .i64 (V 0))) := fun {x u} h => ⟨h.t, (h.bel.cell (p := ⟨ub, uo, none⟩) hub).trans v0.out⟩
  have hxd := Lib.hid hx1.out.drew
  have hCd := Lib.hid (hC.out w1.drew hxd.out.bel)
  clear v0 hx1 hC
  go_region_held3 (fun x => x.cell? ⟨w.heap.size, 0, none⟩ = some (.slice TA n c) ∧ x.cell? ⟨ub, uo, none⟩ = some (.int .i64 (V 0)))
    (first | exact hKp hxd.out | exact hKp hx5.out | exact hKp (hx5.out.set _) | fail)
    (first | (go_at_call 72; (with_reducible refine hCd.out.mono ?_); rintro z w5 ⟨v5, s5, x5, y5, rfl, hR5, hy5, hN5, hb5⟩; have hx5 := Lib.hid (hxd.out.step hb5); have r5 := hx5.out.r; have f5 := hx5.out.fr; have hN5' := Lib.hid hN5; have hR5' := Lib.hid hR5; have hy5' := Lib.hid hy5; obtain ⟨A5, c5, rfl, -, -, -⟩ := hN5; clear hR5 hy5 hb5) | fail)
  clear hKp hCd hxd
  go_wp2_with fail
  refine bodyPost_ret (results_tab2 rfl _ _ (w.heap.size + 2) (.slice A5 (tabN s5) c5) rfl hx5.out.res) rfl ?_
  exact RfPost.fin3 hx5.out hR5'.out hy5'.out hN5'.out
set_option maxHeartbeats 8000000 in
theorem R12img_add (H : ImH w v vl n N e V most) (ho : e.op = 11) : Calls Try.prog 49 #[.agg #[v], ndV e, vl, .int .i64 most] w (RfPost (WayR most ⟨n, N, 0⟩ e V) w) := by
  have hk : e.len.toNat = 1 := H.alen ho (by decide) rfl
  have hC := Lib.hid (fun (x : World) (hb : Below w.heap.size w x) => (R11Add_any v n N (V 0) e.num most x (H.v.below hb) (by have := H.few; omega) (H.R (by omega)) H.nR.num H.most).mono (rf_add (fun m M x er hp => WayR.add ho m M x er hp)))
  have hvl := H.vl
  rw [hk] at hvl
  obtain ⟨ub, uo, cu, rfl, hub, hc⟩ := ints_open hvl (by omega)
  have v0 := Lib.hid (hc 0 (by omega))
  rw [Nat.add_zero] at v0
  obtain ⟨TA, c, rfl, -, -, -⟩ := H.v
  have hx1 := Lib.hid (ImB.start w TA n c e)
  have ho' := Lib.hid ho
  clear H ho hvl hc hk
  unfold ndV
  go_enter Try.func49, Try.ntmps49
  go_upto_region 1 with fail
  generalize hW1 : ((w.alloc (.cells #[.slice TA n c] 24)).alloc (.cells #[.int .i8 e.op, .int .i8 e.len, .int .i64 e.a0, .int .i64 e.a1, .int .i64 e.a2, .int .i64 e.sort, .int .i64 e.fn, .int .i64 e.num] 39)).alloc (.cells #[.slice none 0 0] 24) = w1 at *
  clear hW1
  have c0 := hx1.out.nd.1
  rw [ho'.out] at c0
  go_upto_region 7 with fail
  clear c0
  have hKp : ∀ {x : World} {u : Value}, ImB w e (.slice TA n c) u x → (x.cell? ⟨w.heap.size, 0, none⟩ = some (.slice TA n c) ∧ x.cell? ⟨ub, uo, none⟩ = some (.int .i64 (V 0)) ∧ x.cell? ⟨w.heap.size + 1, 7, none⟩ = some (.int .i64 e.num)) := fun {x u} h => ⟨h.t, (h.bel.cell (p := ⟨ub, uo, none⟩) hub).trans v0.out, h.nd.2.2.2.2.2.2.2⟩
  have hxd := Lib.hid hx1.out.drew
  have hCd := Lib.hid (hC.out w1.drew hxd.out.bel)
  clear v0 hx1 hC
  go_region_held3 (fun x => x.cell? ⟨w.heap.size, 0, none⟩ = some (.slice TA n c) ∧ x.cell? ⟨ub, uo, none⟩ = some (.int .i64 (V 0)) ∧ x.cell? ⟨w.heap.size + 1, 7, none⟩ = some (.int .i64 e.num))
    (first | exact hKp hxd.out | exact hKp hx5.out | exact hKp (hx5.out.set _) | fail)
    (first | (go_at_call 71; (with_reducible refine hCd.out.mono ?_); rintro z w5 ⟨v5, s5, x5, y5, rfl, hR5, hy5, hN5, hb5⟩; have hx5 := Lib.hid (hxd.out.step hb5); have r5 := hx5.out.r; have f5 := hx5.out.fr; have hN5' := Lib.hid hN5; have hR5' := Lib.hid hR5; have hy5' := Lib.hid hy5; obtain ⟨A5, c5, rfl, -, -, -⟩ := hN5; clear hR5 hy5 hb5) | fail)
  clear hKp hCd hxd
  go_wp2_with fail
  refine bodyPost_ret (results_tab2 rfl _ _ (w.heap.size + 2) (.slice A5 (tabN s5) c5) rfl hx5.out.res) rfl ?_
  exact RfPost.fin3 hx5.out hR5'.out hy5'.out hN5'.out
set_option maxHeartbeats 8000000 in
theorem R12img_xor (H : ImH w v vl n N e V most) (ho : e.op = 4) : Calls Try.prog 49 #[.agg #[v], ndV e, vl, .int .i64 most] w (RfPost (WayR most ⟨n, N, 0⟩ e V) w) := by
  have hk : e.len.toNat = 2 := H.alen ho (by decide) rfl
  have hC := Lib.hid (fun (x : World) (hb : Below w.heap.size w x) => (R12xor_any v n N (V 0) (V 1) most x (H.v.below hb) (by have := H.few; omega) H.chk (H.ins 0 (by omega)) (H.ins 1 (by omega)) H.most).mono (RfPost.to (R' := WayR most ⟨n, N, 0⟩ e V) (fun s' x hp => by
    obtain ⟨s1, y, h1, h2⟩ := hp
    exact WayR.xor ho s1 y (by rw [hk]; exact h1.congr (fun i hi => by have : i = 0 ∨ i = 1 := (by omega); rcases this with rfl | rfl <;> rfl)) s' x h2)))
  have hvl := H.vl
  rw [hk] at hvl
  obtain ⟨ub, uo, cu, rfl, hub, hc⟩ := ints_open hvl (by omega)
  have v0 := Lib.hid (hc 0 (by omega))
  rw [Nat.add_zero] at v0
  have v1 := Lib.hid (hc 1 (by omega))
  obtain ⟨TA, c, rfl, -, -, -⟩ := H.v
  have hx1 := Lib.hid (ImB.start w TA n c e)
  have ho' := Lib.hid ho
  clear H ho hvl hc hk
  unfold ndV
  go_enter Try.func49, Try.ntmps49
  go_upto_region 1 with fail
  generalize hW1 : ((w.alloc (.cells #[.slice TA n c] 24)).alloc (.cells #[.int .i8 e.op, .int .i8 e.len, .int .i64 e.a0, .int .i64 e.a1, .int .i64 e.a2, .int .i64 e.sort, .int .i64 e.fn, .int .i64 e.num] 39)).alloc (.cells #[.slice none 0 0] 24) = w1 at *
  clear hW1
  have c0 := hx1.out.nd.1
  rw [ho'.out] at c0
  go_upto_region 15 with fail
  clear c0
  have hKp : ∀ {x : World} {u : Value}, ImB w e (.slice TA n c) u x → (x.cell? ⟨w.heap.size, 0, none⟩ = some (.slice TA n c) ∧ x.cell? ⟨ub, uo, none⟩ = some (.int .i64 (V 0)) ∧ x.cell? ⟨ub, uo + 1, none⟩ = some (.int .i64 (V 1)) ∧ x.cell? ⟨w.heap.size + 1, 0, none⟩ = some (.int .i8 4)) := fun {x u} h => ⟨h.t, (h.bel.cell (p := ⟨ub, uo, none⟩) hub).trans v0.out, (h.bel.cell (p := ⟨ub, uo + 1, none⟩) hub).trans v1.out, (by have := h.nd.1; rw [ho'.out] at this; exact this)⟩
  have hxd := Lib.hid hx1.out.drew
  have hCd := Lib.hid (hC.out w1.drew hxd.out.bel)
  clear v0 v1 hx1 hC
  go_region_held3 (fun x => x.cell? ⟨w.heap.size, 0, none⟩ = some (.slice TA n c) ∧ x.cell? ⟨ub, uo, none⟩ = some (.int .i64 (V 0)) ∧ x.cell? ⟨ub, uo + 1, none⟩ = some (.int .i64 (V 1)) ∧ x.cell? ⟨w.heap.size + 1, 0, none⟩ = some (.int .i8 4))
    (first | exact hKp hxd.out | exact hKp hx5.out | exact hKp (hx5.out.set _) | fail)
    (first | (go_at_call 74; (with_reducible refine hCd.out.mono ?_); rintro z w5 ⟨v5, s5, x5, y5, rfl, hR5, hy5, hN5, hb5⟩; have hx5 := Lib.hid (hxd.out.step hb5); have r5 := hx5.out.r; have f5 := hx5.out.fr; have hN5' := Lib.hid hN5; have hR5' := Lib.hid hR5; have hy5' := Lib.hid hy5; obtain ⟨A5, c5, rfl, -, -, -⟩ := hN5; clear hR5 hy5 hb5) | fail)
  clear hKp hCd hxd
  go_wp2_with fail
  refine bodyPost_ret (results_tab2 rfl _ _ (w.heap.size + 2) (.slice A5 (tabN s5) c5) rfl hx5.out.res) rfl ?_
  exact RfPost.fin3 hx5.out hR5'.out hy5'.out hN5'.out
set_option maxHeartbeats 8000000 in
theorem R12img_imp (H : ImH w v vl n N e V most) (ho : e.op = 5) : Calls Try.prog 49 #[.agg #[v], ndV e, vl, .int .i64 most] w (RfPost (WayR most ⟨n, N, 0⟩ e V) w) := by
  have hk : e.len.toNat = 2 := H.alen ho (by decide) rfl
  have hC := Lib.hid (fun (x : World) (hb : Below w.heap.size w x) => (R12imp_any v n N (V 0) (V 1) most x (H.v.below hb) (by have := H.few; omega) H.chk (H.ins 0 (by omega)) (H.ins 1 (by omega)) H.most).mono (RfPost.to (fun s' x hp => by
    obtain ⟨s1, y, h1, h2⟩ := hp
    exact WayR.imp ho s1 y h1 s' x h2)))
  have hvl := H.vl
  rw [hk] at hvl
  obtain ⟨ub, uo, cu, rfl, hub, hc⟩ := ints_open hvl (by omega)
  have v0 := Lib.hid (hc 0 (by omega))
  rw [Nat.add_zero] at v0
  have v1 := Lib.hid (hc 1 (by omega))
  obtain ⟨TA, c, rfl, -, -, -⟩ := H.v
  have hx1 := Lib.hid (ImB.start w TA n c e)
  have ho' := Lib.hid ho
  clear H ho hvl hc hk
  unfold ndV
  go_enter Try.func49, Try.ntmps49
  go_upto_region 1 with fail
  generalize hW1 : ((w.alloc (.cells #[.slice TA n c] 24)).alloc (.cells #[.int .i8 e.op, .int .i8 e.len, .int .i64 e.a0, .int .i64 e.a1, .int .i64 e.a2, .int .i64 e.sort, .int .i64 e.fn, .int .i64 e.num] 39)).alloc (.cells #[.slice none 0 0] 24) = w1 at *
  clear hW1
  have c0 := hx1.out.nd.1
  rw [ho'.out] at c0
  go_upto_region 15 with fail
  clear c0
  have hKp : ∀ {x : World} {u : Value}, ImB w e (.slice TA n c) u x → (x.cell? ⟨w.heap.size, 0, none⟩ = some (.slice TA n c) ∧ x.cell? ⟨ub, uo, none⟩ = some (.int .i64 (V 0)) ∧ x.cell? ⟨ub, uo + 1, none⟩ = some (.int .i64 (V 1)) ∧ x.cell? ⟨w.heap.size + 1, 0, none⟩ = some (.int .i8 5)) := fun {x u} h => ⟨h.t, (h.bel.cell (p := ⟨ub, uo, none⟩) hub).trans v0.out, (h.bel.cell (p := ⟨ub, uo + 1, none⟩) hub).trans v1.out, (by have := h.nd.1; rw [ho'.out] at this; exact this)⟩
  have hxd := Lib.hid hx1.out.drew
  have hCd := Lib.hid (hC.out w1.drew hxd.out.bel)
  clear v0 v1 hx1 hC
  go_region_held3 (fun x => x.cell? ⟨w.heap.size, 0, none⟩ = some (.slice TA n c) ∧ x.cell? ⟨ub, uo, none⟩ = some (.int .i64 (V 0)) ∧ x.cell? ⟨ub, uo + 1, none⟩ = some (.int .i64 (V 1)) ∧ x.cell? ⟨w.heap.size + 1, 0, none⟩ = some (.int .i8 5))
    (first | exact hKp hxd.out | exact hKp hx5.out | exact hKp (hx5.out.set _) | fail)
    (first | (go_at_call 74; (with_reducible refine hCd.out.mono ?_); rintro z w5 ⟨v5, s5, x5, y5, rfl, hR5, hy5, hN5, hb5⟩; have hx5 := Lib.hid (hxd.out.step hb5); have r5 := hx5.out.r; have f5 := hx5.out.fr; have hN5' := Lib.hid hN5; have hR5' := Lib.hid hR5; have hy5' := Lib.hid hy5; obtain ⟨A5, c5, rfl, -, -, -⟩ := hN5; clear hR5 hy5 hb5) | fail)
  clear hKp hCd hxd
  go_wp2_with fail
  refine bodyPost_ret (results_tab2 rfl _ _ (w.heap.size + 2) (.slice A5 (tabN s5) c5) rfl hx5.out.res) rfl ?_
  exact RfPost.fin3 hx5.out hR5'.out hy5'.out hN5'.out
set_option maxHeartbeats 8000000 in
theorem R12img_eq (H : ImH w v vl n N e V most) (ho : e.op = 6) : Calls Try.prog 49 #[.agg #[v], ndV e, vl, .int .i64 most] w (RfPost (WayR most ⟨n, N, 0⟩ e V) w) := by
  have hk : e.len.toNat = 2 := H.alen ho (by decide) rfl
  have hC := Lib.hid (fun (x : World) (hb : Below w.heap.size w x) => (R12equal_any v n N (V 0) (V 1) most x (H.v.below hb) (by have := H.few; omega) H.chk (H.ins 0 (by omega)) (H.ins 1 (by omega)) H.most).mono (RfPost.to (fun s' x hp => WayR.eq ho s' x hp)))
  have hvl := H.vl
  rw [hk] at hvl
  obtain ⟨ub, uo, cu, rfl, hub, hc⟩ := ints_open hvl (by omega)
  have v0 := Lib.hid (hc 0 (by omega))
  rw [Nat.add_zero] at v0
  have v1 := Lib.hid (hc 1 (by omega))
  obtain ⟨TA, c, rfl, -, -, -⟩ := H.v
  have hx1 := Lib.hid (ImB.start w TA n c e)
  have ho' := Lib.hid ho
  clear H ho hvl hc hk
  unfold ndV
  go_enter Try.func49, Try.ntmps49
  go_upto_region 1 with fail
  generalize hW1 : ((w.alloc (.cells #[.slice TA n c] 24)).alloc (.cells #[.int .i8 e.op, .int .i8 e.len, .int .i64 e.a0, .int .i64 e.a1, .int .i64 e.a2, .int .i64 e.sort, .int .i64 e.fn, .int .i64 e.num] 39)).alloc (.cells #[.slice none 0 0] 24) = w1 at *
  clear hW1
  have c0 := hx1.out.nd.1
  rw [ho'.out] at c0
  go_upto_region 17 with fail
  clear c0
  have hKp : ∀ {x : World} {u : Value}, ImB w e (.slice TA n c) u x → (x.cell? ⟨w.heap.size, 0, none⟩ = some (.slice TA n c) ∧ x.cell? ⟨ub, uo, none⟩ = some (.int .i64 (V 0)) ∧ x.cell? ⟨ub, uo + 1, none⟩ = some (.int .i64 (V 1))) := fun {x u} h => ⟨h.t, (h.bel.cell (p := ⟨ub, uo, none⟩) hub).trans v0.out, (h.bel.cell (p := ⟨ub, uo + 1, none⟩) hub).trans v1.out⟩
  have hxd := Lib.hid hx1.out.drew
  have hCd := Lib.hid (hC.out w1.drew hxd.out.bel)
  clear v0 v1 hx1 hC
  go_region_held3 (fun x => x.cell? ⟨w.heap.size, 0, none⟩ = some (.slice TA n c) ∧ x.cell? ⟨ub, uo, none⟩ = some (.int .i64 (V 0)) ∧ x.cell? ⟨ub, uo + 1, none⟩ = some (.int .i64 (V 1)))
    (first | exact hKp hxd.out | exact hKp hx5.out | exact hKp (hx5.out.set _) | fail)
    (first | (go_at_call 75; (with_reducible refine hCd.out.mono ?_); rintro z w5 ⟨v5, s5, x5, y5, rfl, hR5, hy5, hN5, hb5⟩; have hx5 := Lib.hid (hxd.out.step hb5); have r5 := hx5.out.r; have f5 := hx5.out.fr; have hN5' := Lib.hid hN5; have hR5' := Lib.hid hR5; have hy5' := Lib.hid hy5; obtain ⟨A5, c5, rfl, -, -, -⟩ := hN5; clear hR5 hy5 hb5) | fail)
  clear hKp hCd hxd
  go_wp2_with fail
  refine bodyPost_ret (results_tab2 rfl _ _ (w.heap.size + 2) (.slice A5 (tabN s5) c5) rfl hx5.out.res) rfl ?_
  exact RfPost.fin3 hx5.out hR5'.out hy5'.out hN5'.out
set_option maxHeartbeats 8000000 in
theorem R12img_ite (H : ImH w v vl n N e V most) (ho : e.op = 7) : Calls Try.prog 49 #[.agg #[v], ndV e, vl, .int .i64 most] w (RfPost (WayR most ⟨n, N, 0⟩ e V) w) := by
  have hk : e.len.toNat = 3 := H.alen ho (by decide) rfl
  have hC := Lib.hid (fun (x : World) (hb : Below w.heap.size w x) => (R12ite_any v n N (V 0) (V 1) (V 2) most x (H.v.below hb) (by have := H.few; omega) H.chk (H.ins 0 (by omega)) (H.ins 1 (by omega)) (H.ins 2 (by omega)) H.most).mono (RfPost.to (fun s' x hp => WayR.ite ho s' x hp)))
  have hvl := H.vl
  rw [hk] at hvl
  obtain ⟨ub, uo, cu, rfl, hub, hc⟩ := ints_open hvl (by omega)
  have v0 := Lib.hid (hc 0 (by omega))
  rw [Nat.add_zero] at v0
  have v1 := Lib.hid (hc 1 (by omega))
  have v2 := Lib.hid (hc 2 (by omega))
  obtain ⟨TA, c, rfl, -, -, -⟩ := H.v
  have hx1 := Lib.hid (ImB.start w TA n c e)
  have ho' := Lib.hid ho
  clear H ho hvl hc hk
  unfold ndV
  go_enter Try.func49, Try.ntmps49
  go_upto_region 1 with fail
  generalize hW1 : ((w.alloc (.cells #[.slice TA n c] 24)).alloc (.cells #[.int .i8 e.op, .int .i8 e.len, .int .i64 e.a0, .int .i64 e.a1, .int .i64 e.a2, .int .i64 e.sort, .int .i64 e.fn, .int .i64 e.num] 39)).alloc (.cells #[.slice none 0 0] 24) = w1 at *
  clear hW1
  have c0 := hx1.out.nd.1
  rw [ho'.out] at c0
  go_upto_region 19 with fail
  clear c0
  have hKp : ∀ {x : World} {u : Value}, ImB w e (.slice TA n c) u x → (x.cell? ⟨w.heap.size, 0, none⟩ = some (.slice TA n c) ∧ x.cell? ⟨ub, uo, none⟩ = some (.int .i64 (V 0)) ∧ x.cell? ⟨ub, uo + 1, none⟩ = some (.int .i64 (V 1)) ∧ x.cell? ⟨ub, uo + 2, none⟩ = some (.int .i64 (V 2))) := fun {x u} h => ⟨h.t, (h.bel.cell (p := ⟨ub, uo, none⟩) hub).trans v0.out, (h.bel.cell (p := ⟨ub, uo + 1, none⟩) hub).trans v1.out, (h.bel.cell (p := ⟨ub, uo + 2, none⟩) hub).trans v2.out⟩
  have hxd := Lib.hid hx1.out.drew
  have hCd := Lib.hid (hC.out w1.drew hxd.out.bel)
  clear v0 v1 v2 hx1 hC
  go_region_held3 (fun x => x.cell? ⟨w.heap.size, 0, none⟩ = some (.slice TA n c) ∧ x.cell? ⟨ub, uo, none⟩ = some (.int .i64 (V 0)) ∧ x.cell? ⟨ub, uo + 1, none⟩ = some (.int .i64 (V 1)) ∧ x.cell? ⟨ub, uo + 2, none⟩ = some (.int .i64 (V 2)))
    (first | exact hKp hxd.out | exact hKp hx5.out | exact hKp (hx5.out.set _) | fail)
    (first | (go_at_call 76; (with_reducible refine hCd.out.mono ?_); rintro z w5 ⟨v5, s5, x5, y5, rfl, hR5, hy5, hN5, hb5⟩; have hx5 := Lib.hid (hxd.out.step hb5); have r5 := hx5.out.r; have f5 := hx5.out.fr; have hN5' := Lib.hid hN5; have hR5' := Lib.hid hR5; have hy5' := Lib.hid hy5; obtain ⟨A5, c5, rfl, -, -, -⟩ := hN5; clear hR5 hy5 hb5) | fail)
  clear hKp hCd hxd
  go_wp2_with fail
  refine bodyPost_ret (results_tab2 rfl _ _ (w.heap.size + 2) (.slice A5 (tabN s5) c5) rfl hx5.out.res) rfl ?_
  exact RfPost.fin3 hx5.out hR5'.out hy5'.out hN5'.out
set_option maxHeartbeats 8000000 in
theorem R12img_le (H : ImH w v vl n N e V most) (ho : e.op = 8) : Calls Try.prog 49 #[.agg #[v], ndV e, vl, .int .i64 most] w (RfPost (WayR most ⟨n, N, 0⟩ e V) w) := by
  have hk : e.len.toNat = 2 := H.alen ho (by decide) rfl
  have hC := Lib.hid (fun (x : World) (hb : Below w.heap.size w x) => (R12le_any v n N (V 0) (V 1) 0 most x (H.v.below hb) (by have := H.few; omega) (H.R (by omega)) (H.R (by omega)) R64_0 H.most).mono (RfPost.to (fun s' x hp => WayR.le ho s' x hp)))
  have hvl := H.vl
  rw [hk] at hvl
  obtain ⟨ub, uo, cu, rfl, hub, hc⟩ := ints_open hvl (by omega)
  have v0 := Lib.hid (hc 0 (by omega))
  rw [Nat.add_zero] at v0
  have v1 := Lib.hid (hc 1 (by omega))
  obtain ⟨TA, c, rfl, -, -, -⟩ := H.v
  have hx1 := Lib.hid (ImB.start w TA n c e)
  have ho' := Lib.hid ho
  clear H ho hvl hc hk
  unfold ndV
  go_enter Try.func49, Try.ntmps49
  go_upto_region 1 with fail
  generalize hW1 : ((w.alloc (.cells #[.slice TA n c] 24)).alloc (.cells #[.int .i8 e.op, .int .i8 e.len, .int .i64 e.a0, .int .i64 e.a1, .int .i64 e.a2, .int .i64 e.sort, .int .i64 e.fn, .int .i64 e.num] 39)).alloc (.cells #[.slice none 0 0] 24) = w1 at *
  clear hW1
  have c0 := hx1.out.nd.1
  rw [ho'.out] at c0
  go_upto_region 21 with fail
  clear c0
  have hKp : ∀ {x : World} {u : Value}, ImB w e (.slice TA n c) u x → (x.cell? ⟨w.heap.size, 0, none⟩ = some (.slice TA n c) ∧ x.cell? ⟨ub, uo, none⟩ = some (.int .i64 (V 0)) ∧ x.cell? ⟨ub, uo + 1, none⟩ = some (.int .i64 (V 1))) := fun {x u} h => ⟨h.t, (h.bel.cell (p := ⟨ub, uo, none⟩) hub).trans v0.out, (h.bel.cell (p := ⟨ub, uo + 1, none⟩) hub).trans v1.out⟩
  have hxd := Lib.hid hx1.out.drew
  have hCd := Lib.hid (hC.out w1.drew hxd.out.bel)
  clear v0 v1 hx1 hC
  go_region_held3 (fun x => x.cell? ⟨w.heap.size, 0, none⟩ = some (.slice TA n c) ∧ x.cell? ⟨ub, uo, none⟩ = some (.int .i64 (V 0)) ∧ x.cell? ⟨ub, uo + 1, none⟩ = some (.int .i64 (V 1)))
    (first | exact hKp hxd.out | exact hKp hx5.out | exact hKp (hx5.out.set _) | fail)
    (first | (go_at_call 77; (with_reducible refine hCd.out.mono ?_); rintro z w5 ⟨v5, s5, x5, y5, rfl, hR5, hy5, hN5, hb5⟩; have hx5 := Lib.hid (hxd.out.step hb5); have r5 := hx5.out.r; have f5 := hx5.out.fr; have hN5' := Lib.hid hN5; have hR5' := Lib.hid hR5; have hy5' := Lib.hid hy5; obtain ⟨A5, c5, rfl, -, -, -⟩ := hN5; clear hR5 hy5 hb5) | fail)
  clear hKp hCd hxd
  go_wp2_with fail
  refine bodyPost_ret (results_tab2 rfl _ _ (w.heap.size + 2) (.slice A5 (tabN s5) c5) rfl hx5.out.res) rfl ?_
  exact RfPost.fin3 hx5.out hR5'.out hy5'.out hN5'.out
set_option maxHeartbeats 8000000 in
theorem R12img_lt (H : ImH w v vl n N e V most) (ho : e.op = 9) : Calls Try.prog 49 #[.agg #[v], ndV e, vl, .int .i64 most] w (RfPost (WayR most ⟨n, N, 0⟩ e V) w) := by
  have hk : e.len.toNat = 2 := H.alen ho (by decide) rfl
  have hC := Lib.hid (fun (x : World) (hb : Below w.heap.size w x) => (R12le_any v n N (V 0) (V 1) (-1) most x (H.v.below hb) (by have := H.few; omega) (H.R (by omega)) (H.R (by omega)) ⟨by decide, by decide⟩ H.most).mono (RfPost.to (fun s' x hp => WayR.lt ho s' x hp)))
  have hvl := H.vl
  rw [hk] at hvl
  obtain ⟨ub, uo, cu, rfl, hub, hc⟩ := ints_open hvl (by omega)
  have v0 := Lib.hid (hc 0 (by omega))
  rw [Nat.add_zero] at v0
  have v1 := Lib.hid (hc 1 (by omega))
  obtain ⟨TA, c, rfl, -, -, -⟩ := H.v
  have hx1 := Lib.hid (ImB.start w TA n c e)
  have ho' := Lib.hid ho
  clear H ho hvl hc hk
  unfold ndV
  go_enter Try.func49, Try.ntmps49
  go_upto_region 1 with fail
  generalize hW1 : ((w.alloc (.cells #[.slice TA n c] 24)).alloc (.cells #[.int .i8 e.op, .int .i8 e.len, .int .i64 e.a0, .int .i64 e.a1, .int .i64 e.a2, .int .i64 e.sort, .int .i64 e.fn, .int .i64 e.num] 39)).alloc (.cells #[.slice none 0 0] 24) = w1 at *
  clear hW1
  have c0 := hx1.out.nd.1
  rw [ho'.out] at c0
  go_upto_region 23 with fail
  clear c0
  have hKp : ∀ {x : World} {u : Value}, ImB w e (.slice TA n c) u x → (x.cell? ⟨w.heap.size, 0, none⟩ = some (.slice TA n c) ∧ x.cell? ⟨ub, uo, none⟩ = some (.int .i64 (V 0)) ∧ x.cell? ⟨ub, uo + 1, none⟩ = some (.int .i64 (V 1))) := fun {x u} h => ⟨h.t, (h.bel.cell (p := ⟨ub, uo, none⟩) hub).trans v0.out, (h.bel.cell (p := ⟨ub, uo + 1, none⟩) hub).trans v1.out⟩
  have hxd := Lib.hid hx1.out.drew
  have hCd := Lib.hid (hC.out w1.drew hxd.out.bel)
  clear v0 v1 hx1 hC
  go_region_held3 (fun x => x.cell? ⟨w.heap.size, 0, none⟩ = some (.slice TA n c) ∧ x.cell? ⟨ub, uo, none⟩ = some (.int .i64 (V 0)) ∧ x.cell? ⟨ub, uo + 1, none⟩ = some (.int .i64 (V 1)))
    (first | exact hKp hxd.out | exact hKp hx5.out | exact hKp (hx5.out.set _) | fail)
    (first | (go_at_call 77; (with_reducible refine hCd.out.mono ?_); rintro z w5 ⟨v5, s5, x5, y5, rfl, hR5, hy5, hN5, hb5⟩; have hx5 := Lib.hid (hxd.out.step hb5); have r5 := hx5.out.r; have f5 := hx5.out.fr; have hN5' := Lib.hid hN5; have hR5' := Lib.hid hR5; have hy5' := Lib.hid hy5; obtain ⟨A5, c5, rfl, -, -, -⟩ := hN5; clear hR5 hy5 hb5) | fail)
  clear hKp hCd hxd
  go_wp2_with fail
  refine bodyPost_ret (results_tab2 rfl _ _ (w.heap.size + 2) (.slice A5 (tabN s5) c5) rfl hx5.out.res) rfl ?_
  exact RfPost.fin3 hx5.out hR5'.out hy5'.out hN5'.out
set_option maxHeartbeats 8000000 in
theorem R12img_diff (H : ImH w v vl n N e V most) (ho : e.op = 12) : Calls Try.prog 49 #[.agg #[v], ndV e, vl, .int .i64 most] w (RfPost (WayR most ⟨n, N, 0⟩ e V) w) := by
  have hk : e.len.toNat = 2 := H.alen ho (by decide) rfl
  have hC := Lib.hid (fun (x : World) (hb : Below w.heap.size w x) => (R12le_any v n N (V 0) (V 1) e.num most x (H.v.below hb) (by have := H.few; omega) (H.R (by omega)) (H.R (by omega)) H.nR.num H.most).mono (RfPost.to (fun s' x hp => WayR.diff ho s' x hp)))
  have hvl := H.vl
  rw [hk] at hvl
  obtain ⟨ub, uo, cu, rfl, hub, hc⟩ := ints_open hvl (by omega)
  have v0 := Lib.hid (hc 0 (by omega))
  rw [Nat.add_zero] at v0
  have v1 := Lib.hid (hc 1 (by omega))
  obtain ⟨TA, c, rfl, -, -, -⟩ := H.v
  have hx1 := Lib.hid (ImB.start w TA n c e)
  have ho' := Lib.hid ho
  clear H ho hvl hc hk
  unfold ndV
  go_enter Try.func49, Try.ntmps49
  go_upto_region 1 with fail
  generalize hW1 : ((w.alloc (.cells #[.slice TA n c] 24)).alloc (.cells #[.int .i8 e.op, .int .i8 e.len, .int .i64 e.a0, .int .i64 e.a1, .int .i64 e.a2, .int .i64 e.sort, .int .i64 e.fn, .int .i64 e.num] 39)).alloc (.cells #[.slice none 0 0] 24) = w1 at *
  clear hW1
  have c0 := hx1.out.nd.1
  rw [ho'.out] at c0
  go_upto_region 25 with fail
  clear c0
  have hKp : ∀ {x : World} {u : Value}, ImB w e (.slice TA n c) u x → (x.cell? ⟨w.heap.size, 0, none⟩ = some (.slice TA n c) ∧ x.cell? ⟨ub, uo, none⟩ = some (.int .i64 (V 0)) ∧ x.cell? ⟨ub, uo + 1, none⟩ = some (.int .i64 (V 1)) ∧ x.cell? ⟨w.heap.size + 1, 7, none⟩ = some (.int .i64 e.num)) := fun {x u} h => ⟨h.t, (h.bel.cell (p := ⟨ub, uo, none⟩) hub).trans v0.out, (h.bel.cell (p := ⟨ub, uo + 1, none⟩) hub).trans v1.out, h.nd.2.2.2.2.2.2.2⟩
  have hxd := Lib.hid hx1.out.drew
  have hCd := Lib.hid (hC.out w1.drew hxd.out.bel)
  clear v0 v1 hx1 hC
  go_region_held3 (fun x => x.cell? ⟨w.heap.size, 0, none⟩ = some (.slice TA n c) ∧ x.cell? ⟨ub, uo, none⟩ = some (.int .i64 (V 0)) ∧ x.cell? ⟨ub, uo + 1, none⟩ = some (.int .i64 (V 1)) ∧ x.cell? ⟨w.heap.size + 1, 7, none⟩ = some (.int .i64 e.num))
    (first | exact hKp hxd.out | exact hKp hx5.out | exact hKp (hx5.out.set _) | fail)
    (first | (go_at_call 77; (with_reducible refine hCd.out.mono ?_); rintro z w5 ⟨v5, s5, x5, y5, rfl, hR5, hy5, hN5, hb5⟩; have hx5 := Lib.hid (hxd.out.step hb5); have r5 := hx5.out.r; have f5 := hx5.out.fr; have hN5' := Lib.hid hN5; have hR5' := Lib.hid hR5; have hy5' := Lib.hid hy5; obtain ⟨A5, c5, rfl, -, -, -⟩ := hN5; clear hR5 hy5 hb5) | fail)
  clear hKp hCd hxd
  go_wp2_with fail
  refine bodyPost_ret (results_tab2 rfl _ _ (w.heap.size + 2) (.slice A5 (tabN s5) c5) rfl hx5.out.res) rfl ?_
  exact RfPost.fin3 hx5.out hR5'.out hy5'.out hN5'.out
end
end Go.Proofs.Ytecmoahadckomaa

namespace Go.Proofs.Ytecmoahadckomaa
open Go.RowKit Go.Maps
set_option maxRecDepth 1000000
/-- The cells of an application's copy, the first j images set. -/
def aF (e : Nd) (V : Nat → Int) (j i : Nat) : Value := if i = 0 then .int .i8 13 else if i = 1 then .int .i8 e.len else if i < 5 then (if i - 2 < j then .int .i64 (V (i - 2)) else .int .i64 0) else if i = 5 then .int .i64 e.sort else if i = 6 then .int .i64 e.fn else .int .i64 e.num
theorem aF_set (e : Nd) (V : Nat → Int) {j : Nat} (hj : j < 3) : (fun i => if i = 2 + j then Value.int .i64 (V j) else aF e V j i) = aF e V (j + 1) := by
  funext i
  by_cases h : i = 2 + j
  · subst h
    rw [if_pos rfl]
    unfold aF
    rw [if_neg (by omega), if_neg (by omega), if_pos (by omega), if_pos (by omega), show 2 + j - 2 = j by omega]
  · rw [if_neg h]
    unfold aF
    by_cases h0 : i = 0
    · rw [if_pos h0, if_pos h0]
    rw [if_neg h0, if_neg h0]
    by_cases h1 : i = 1
    · rw [if_pos h1, if_pos h1]
    rw [if_neg h1, if_neg h1]
    by_cases h5 : i < 5
    · rw [if_pos h5, if_pos h5]
      by_cases hl : i - 2 < j
      · rw [if_pos hl, if_pos (by omega)]
      · rw [if_neg hl, if_neg (by omega)]
    · rw [if_neg h5, if_neg h5]
theorem aF_arg (e : Nd) (V : Nat → Int) (j : Nat) {i : Nat} (hi : i < 3) : aF e V j (2 + i) = .int .i64 (if i < j then V i else 0) := by
  unfold aF
  rw [if_neg (by omega), if_neg (by omega), if_pos (by omega), show 2 + i - 2 = i by omega]
  by_cases h : i < j
  · rw [if_pos h, if_pos h]
  · rw [if_neg h, if_neg h]
structure AppI (w : World) (e : Nd) (V : Nat → Int) (v u : Value) (j : Nat) (x : World) : Prop where
  bx : ImB w e v u x
  nd : x.rowIs (w.heap.size + 3) 39 8 (aF e V j)
section
variable {w x y : World} {e : Nd} {V : Nat → Int} {v u : Value} {j : Nat}
theorem ImB.far (h : ImB w e v u x) {g o : Nat} (hg : w.heap.size + 2 < g) (u' : Value) : ImB w e v u (x.setCell ⟨g, o, none⟩ u') :=
  ⟨(World.cell?_setCell_far _ _ _ _ (by show g ≠ w.heap.size + 2; omega)).trans h.r, by rw [World.frozen?_setCell]; exact h.fr, (World.cell?_setCell_far _ _ _ _ (by show g ≠ w.heap.size; omega)).trans h.t, h.nd.keep fun i => World.cell?_setCell_far _ _ _ _ (by show g ≠ w.heap.size + 1; omega), h.bel.setCell (p := ⟨g, o, none⟩) (by show _ ≤ g; omega) _, by simpa using h.lt⟩
theorem AppI.set (h : AppI w e V v u j x) (hj : j < 3) : AppI w e V v u (j + 1) (x.setCell ⟨w.heap.size + 3, 2 + j, none⟩ (.int .i64 (V j))) := by
  refine ⟨h.bx.far (by omega) _, ?_⟩
  have := h.nd.set (2 + j) (.int .i64 (V j))
  rw [aF_set e V hj] at this
  exact this
theorem AppI.start (h : ImB w e v u x) (hs : x.heap.size = w.heap.size + 3) : AppI w e V v u 0 (x.alloc (.cells #[.int .i8 13, .int .i8 e.len, .int .i64 0, .int .i64 0, .int .i64 0, .int .i64 e.sort, .int .i64 e.fn, .int .i64 e.num] 39)) := by
  refine ⟨h.skip _, ?_⟩
  rw [← hs]
  refine World.rowIs_alloc _ _ _ _ fun i hi => ?_
  have hi : i < 8 := hi
  obtain rfl | rfl | rfl | rfl | rfl | rfl | rfl | rfl : i = 0 ∨ i = 1 ∨ i = 2 ∨ i = 3 ∨ i = 4 ∨ i = 5 ∨ i = 6 ∨ i = 7 := by omega
  all_goals rfl
theorem AppI.cells (h : AppI w e V v u j x) (hj : e.len = j) (ho : e.op = 13) : NdIn x (w.heap.size + 3) 0 (appNd e V) := by
  have hc : ∀ i v, i < 8 → aF e V j i = v → x.cell? ⟨w.heap.size + 3, 0 + i, none⟩ = some v := fun i v hi hv => by rw [← hv, Nat.zero_add]; exact h.nd.cell hi
  have ha : ∀ i : Nat, (if (i : Int) < e.len then V i else 0) = (if i < j then V i else 0) := fun i => by
    rw [hj]
    by_cases h : i < j
    · rw [if_pos h, if_pos (by omega)]
    · rw [if_neg h, if_neg (by omega)]
  exact ⟨hc 0 _ (by omega) (by show Value.int .i8 13 = .int .i8 e.op; rw [ho]), hc 1 _ (by omega) rfl, hc 2 _ (by omega) (by rw [aF_arg e V j (i := 0) (by omega), ← ha 0]; rfl), hc 3 _ (by omega) (by rw [aF_arg e V j (i := 1) (by omega), ← ha 1]; rfl), hc 4 _ (by omega) (by rw [aF_arg e V j (i := 2) (by omega), ← ha 2]; rfl), hc 5 _ (by omega) rfl, hc 6 _ (by omega) rfl, hc 7 _ (by omega) rfl⟩
end
set_option maxHeartbeats 8000000 in
theorem R12img_app {w : World} {v vl : Value} {n : Nat} {N : Nat → Nd} {e : Nd} {V : Nat → Int} {most : Int} (H : ImH w v vl n N e V most) (ho : e.op = 13) : Calls Try.prog 49 #[.agg #[v], ndV e, vl, .int .i64 most] w (RfPost (WayR most ⟨n, N, 0⟩ e V) w) := by
  have hC := Lib.hid (fun (x : World) (hb : Below w.heap.size w x) => (RPut_any v n N (appNd e V) most x (H.v.below hb) (by have := H.few; omega) (appNd_R H.nR (fun i hi => H.R hi)) H.most).mono (rf_put (R := WayR most ⟨n, N, 0⟩ e V) (fun m M x er hp => WayR.app ho _ _ (.put rfl m M x er hp))))
  obtain ⟨m, hm⟩ : ∃ m : Nat, e.len = m := ⟨e.len.toNat, by have := H.len; omega⟩
  have hl3 := H.len.2
  have hvl := H.vl
  rw [show e.len.toNat = m by omega] at hvl
  obtain ⟨UA, cu, rfl, -, hRV, hcv⟩ := hvl
  obtain ⟨TA, c, rfl, -, -, -⟩ := H.v
  have hx1 := Lib.hid (ImB.start w TA n c e)
  have ho' := Lib.hid ho
  have hm' := Lib.hid hm
  have hRV' := Lib.hid hRV
  have hcv' := Lib.hid hcv
  have hm3 : m ≤ 3 := by omega
  clear H ho hRV hcv hl3 hm
  unfold ndV
  go_enter Try.func49, Try.ntmps49
  go_upto_region 1 with fail
  generalize hW1 : ((w.alloc (.cells #[.slice TA n c] 24)).alloc (.cells #[.int .i8 e.op, .int .i8 e.len, .int .i64 e.a0, .int .i64 e.a1, .int .i64 e.a2, .int .i64 e.sort, .int .i64 e.fn, .int .i64 e.num] 39)).alloc (.cells #[.slice none 0 0] 24) = w1 at *
  have l1 : w1.heap.size = w.heap.size + 3 := by rw [← hW1]; simp
  clear hW1
  obtain ⟨c0, c1, c2, c3, c4, c5, c6, c7⟩ := hx1.out.nd
  rw [ho'.out] at c0
  simp only [Nat.zero_add] at c1 c2 c3 c4 c5 c6 c7
  go_wp2_with fail
  clear c0 c1 c2 c3 c4 c5 c6 c7
  have hI0 := Lib.hid (AppI.start (V := V) hx1.out l1)
  clear hx1 l1
  go_loopw [12] (fun i wr => ∃ j : Nat, j ≤ m ∧ i = .int .i64 j ∧ Hid (AppI w e V (.slice TA n c) (.slice none 0 0) j wr)) (fun i _ => m - (intOf i).toNat)
  case atStart => exact ⟨0, Nat.zero_le _, rfl, hI0.out⟩
  case round =>
  clear hI0
  obtain ⟨j, hj, rfl, hI⟩ := hrel
  by_cases hlt : j < m
  · have i1 : decide ((j : Int) < (m : Int)) = true := decide_eq_true (by omega)
    obtain ⟨ub, uo, rfl, hub, hcu⟩ := hcv'.out (by omega)
    have rj := (hI.out.bx.bel.cell (p := ⟨ub, uo + j, none⟩) hub).trans (hcu j hlt)
    have e0 : aF e V j (2 + j) = .int .i64 0 := by rw [aF_arg e V j (by omega), if_neg (by omega)]
    have n0 := hI.out.nd.cell (i := 2 + j) (by omega)
    rw [e0] at n0
    have g0 := hI.out.nd.frozen (2 + j)
    have hI1 := Lib.hid (hI.out.set (by omega))
    have hj0 : (0 : Int) ≤ (j : Int) := by omega
    have hj3 : (j : Int) < 3 := by omega
    have hjm : (j : Int) < (m : Int) := by omega
    clear hcu e0
    go_wp2_with fail
    go_roundw
    case rel => exact ⟨j + 1, by omega, by go_num, hI1.out⟩
    case measure => simp [intOf]; omega
  · have i1 : decide ((j : Int) < (m : Int)) = false := decide_eq_false (by omega)
    obtain rfl : j = m := by omega
    have hnd := hI.out.cells hm'.out ho'.out
    have t1 := hI.out.bx.t
    have hCd := Lib.hid (hC.out wr hI.out.bx.bel)
    unfold ndV at hCd
    generalize appNd e V = nd at *
    obtain ⟨c0, c1, c2, c3, c4, c5, c6, c7⟩ := hnd
    simp only [Nat.zero_add] at c0 c1 c2 c3 c4 c5 c6 c7
    clear hC
    go_wp2_with fail
    with_reducible refine hCd.out.mono ?_
    rintro z w5 ⟨v5, s5, x5, y5, rfl, hR5, hy5, hN5, hb5⟩
    have hx5 := Lib.hid (hI.out.bx.step hb5)
    have r5 := hx5.out.r
    have f5 := hx5.out.fr
    have hN5' := Lib.hid hN5
    have hR5' := Lib.hid hR5
    have hy5' := Lib.hid hy5
    obtain ⟨A5, c5', rfl, -, -, -⟩ := hN5
    clear hR5 hy5 hb5 hCd c0 c1 c2 c3 c4 c5 c6 c7 t1 hI
    go_wp2_with fail
    refine bodyPost_ret (results_tab2 rfl _ _ (w.heap.size + 2) (.slice A5 (tabN s5) c5') rfl hx5.out.res) rfl ?_
    exact RfPost.fin3 hx5.out hR5'.out hy5'.out hN5'.out
/-- image: what a node's image comes to. -/
theorem R12image_any {w : World} {v vl : Value} {n : Nat} {N : Nat → Nd} {e : Nd} {V : Nat → Int} {most : Int} (H : ImH w v vl n N e V most) (ho : e.op = 0 ∨ e.op = 1 ∨ e.op = 2 ∨ e.op = 3 ∨ e.op = 4 ∨ e.op = 5 ∨ e.op = 6 ∨ e.op = 7 ∨ e.op = 8 ∨ e.op = 9 ∨ e.op = 10 ∨ e.op = 11 ∨ e.op = 12 ∨ e.op = 13) :
    Calls Try.prog 49 #[.agg #[v], ndV e, vl, .int .i64 most] w (RfPost (WayR most ⟨n, N, 0⟩ e V) w) := by
  rcases ho with h | h | h | h | h | h | h | h | h | h | h | h | h | h
  · exact R12img_tru H h
  · exact R12img_not H h
  · exact R12img_kind H (.inl h)
  · exact R12img_kind H (.inr h)
  · exact R12img_xor H h
  · exact R12img_imp H h
  · exact R12img_eq H h
  · exact R12img_ite H h
  · exact R12img_le H h
  · exact R12img_lt H h
  · exact R12img_num H h
  · exact R12img_add H h
  · exact R12img_diff H h
  · exact R12img_app H h
end Go.Proofs.Ytecmoahadckomaa
