/- The law IdlHolds: the walk. -/
import Derived.Test.YtioceechdombjaaZIdlR
import Derived.Test.YtioceechdombjaaZIdlVIdlWIdlNumbers
import Derived.Test.YtioceechdombjaaZR10ValsR10ValsB
import Derived.Test.YtioceechdombjaaZGreatG
import Derived.Test.YtioceechdombjaaZValWRIsGreatR9
namespace Go.Proofs.Ytioceechdombjaa
open Go.RowKit
set_option maxRecDepth 1000000

set_option maxHeartbeats 16000000 in
theorem IdlHolds_any (sv fv mv zv wv tv u : Value) (g : Sg) (W : Wd) (n : Nat) (N : Nat → Nd) (m : Nat) (f : Nat → Int) (w : World) (hG : SgAt w sv fv mv g) (hW : WdAt w zv wv W) (hv : NdsAt w tv n N) (hu : IntsAt w u m f) :
    Calls Try.prog 3 #[.agg #[sv, fv, mv], .agg #[zv, wv], .agg #[tv], u] w fun e w' => e = .returned (.bool true) ∧ Below w.heap.size w w' := by
  have hwk := Lib.hid wakes25_any
  have hx0 := Lib.hid (q10K_bx w sv fv mv zv wv tv)
  have hg1 := Lib.hid fun (x : World) (hb : Below w.heap.size w x) => Great_any sv fv mv g x (hG.below hb)
  have hg2 := Lib.hid fun (x : World) (hb : Below w.heap.size w x) => R9Great_any zv wv W x (hW.below hb)
  have hMy := Lib.hid fun (hn : n ≤ 60) (x : World) (hb : Below w.heap.size w x) => RMay13_any tv u n m N f x (hv.below hb) (by omega) (hu.below hb)
  have hLm := Lib.hid fun (hn : n ≤ 60) (hm : m ≤ 60) (hy : mayT n N m f = true) (x : World) (hb : Below w.heap.size w x) => Lemma_any tv u n N ((List.range m).map f) x (hv.below hb) (by omega) (may_lst hy).1 ((hu.lst).below hb) (by rw [lst_len]; omega) (may_lst hy).2
  have hVr := Lib.hid fun (hw : FewW W) (hn : n ≤ 60) (x : World) (hb : Below w.heap.size w x) => R10Values_any sv fv mv zv wv tv g W n N x (hG.below hb) (hW.below hb) hw (hv.below hb) (by omega)
  have hu' := Lib.hid hu
  obtain ⟨SA, sc, rfl, -, -⟩ := hG.1
  obtain ⟨FA, fc, rfl, -, -⟩ := hG.2.1
  obtain ⟨MA, mc, rfl, -, -⟩ := hG.2.2
  obtain ⟨ZA, zc, rfl, -, -, -⟩ := hW.1
  obtain ⟨WA, wq, rfl, -, -⟩ := hW.2
  obtain ⟨TA, tc, rfl, -, -, -⟩ := hv
  obtain ⟨UA, uc, rfl, hm63, -, -⟩ := hu
  clear hG hW
  obtain ⟨k0, k1, k2, k3, k4, k5⟩ := q10K_cells hx0.out
  by_cases hn6 : 60 < n
  · have d1 : decide ((60 : Int) < (n : Int)) = true := decide_eq_true (by omega)
    clear hn6
    go_enter Try.func3, Try.ntmps3
    go_wp2_with (go_at_call 11; (with_reducible refine (hwk.out _).mono ?_); rintro e w1 ⟨rfl, hb1⟩; have hx1 := Lib.hid (hx0.out.step hb1))
    go_ret
    exact ⟨rfl, hx1.out.bel⟩
  have d1 : decide ((60 : Int) < (n : Int)) = false := decide_eq_false (by omega)
  by_cases hm6 : 60 < m
  · have d2 : decide ((60 : Int) < (m : Int)) = true := decide_eq_true (by omega)
    clear hm6 hn6
    go_enter Try.func3, Try.ntmps3
    go_wp2_with (go_at_call 11; (with_reducible refine (hwk.out _).mono ?_); rintro e w1 ⟨rfl, hb1⟩; have hx1 := Lib.hid (hx0.out.step hb1))
    go_ret
    exact ⟨rfl, hx1.out.bel⟩
  have d2 : decide ((60 : Int) < (m : Int)) = false := decide_eq_false (by omega)
  have hn : n ≤ 60 := by omega
  have hm : m ≤ 60 := by omega
  have hMy' := Lib.hid (hMy.out hn)
  have hLm' := Lib.hid (hLm.out hn hm)
  clear hn6 hm6 hMy hLm
  go_enter Try.func3, Try.ntmps3
  go_wp2_with fail
  refine (hg1.out _ hx0.out.bel).mono ?_
  rintro e w1 ⟨⟨bb, rfl, hfew⟩, hb1⟩
  have hx1 := Lib.hid (hx0.out.step hb1)
  clear hb1 hx0 hfew hg1 k0 k1 k2 k3 k4 k5
  cases bb with
  | true =>
    go_wp2_with (go_at_call 11; (with_reducible refine (hwk.out _).mono ?_); rintro e w2 ⟨rfl, hb2⟩; have hx2 := Lib.hid (hx1.out.step hb2))
    go_ret
    exact ⟨rfl, hx2.out.bel⟩
  | false =>
  obtain ⟨k0, k1, k2, k3, k4, k5⟩ := q10K_cells hx1.out
  go_wp2_with fail
  refine (hg2.out _ hx1.out.bel).mono ?_
  rintro e w2 ⟨⟨bb, rfl, hfw⟩, hb2⟩
  have hx2 := Lib.hid (hx1.out.step hb2)
  have hsm := Lib.hid hfw
  clear hb2 hx1 hg2 hfw k0 k1 k2 k3 k4 k5
  cases bb with
  | true =>
    go_wp2_with (go_at_call 11; (with_reducible refine (hwk.out _).mono ?_); rintro e w3 ⟨rfl, hb3⟩; have hx3 := Lib.hid (hx2.out.step hb3))
    go_ret
    exact ⟨rfl, hx3.out.bel⟩
  | false =>
  have hVr' := Lib.hid (hVr.out (hsm.out rfl) hn)
  obtain ⟨k0, k1, k2, k3, k4, k5⟩ := q10K_cells hx2.out
  clear hsm hVr
  go_wp2_with fail
  refine (hMy'.out _ hx2.out.bel).mono ?_
  rintro e w3 ⟨rfl, hb3⟩
  have hx3 := Lib.hid (hx2.out.step hb3)
  clear hb3 hx2 hMy' k0 k1 k2 k3 k4 k5
  by_cases hmy : mayT n N m f = true
  case neg =>
    have hmy : mayT n N m f = false := by simpa using hmy
    rw [hmy]
    go_wp2_with (go_at_call 11; (with_reducible refine (hwk.out _).mono ?_); rintro e w4 ⟨rfl, hb4⟩; have hx4 := Lib.hid (hx3.out.step hb4))
    go_ret
    exact ⟨rfl, hx4.out.bel⟩
  have hLl := Lib.hid (hLm'.out hmy)
  have hxs := Lib.hid (may_lst hmy)
  rw [hmy]
  clear hmy hLm'
  obtain ⟨k0, k1, k2, k3, k4, k5⟩ := q10K_cells hx3.out
  go_wp2_with fail
  refine (hLl.out _ hx3.out.bel).mono ?_
  rintro e w4 ⟨rfl, hb4⟩
  have hx4 := Lib.hid (hx3.out.step hb4)
  clear hb4 hx3 hLl k0 k1 k2 k3 k4 k5
  by_cases hck : ckB n N (((List.range m).map f).map negL) = true
  case neg =>
    have hck : ckB n N (((List.range m).map f).map negL) = false := by simpa using hck
    rw [hck]
    go_wp2_with (go_at_call 11; (with_reducible refine (hwk.out _).mono ?_); rintro e w5 ⟨rfl, hb5⟩; have hx5 := Lib.hid (hx4.out.step hb5))
    go_ret
    exact ⟨rfl, hx5.out.bel⟩
  rw [hck]
  have hck' := Lib.hid hck
  clear hck
  obtain ⟨k0, k1, k2, k3, k4, k5⟩ := q10K_cells hx4.out
  go_wp2_with fail
  refine (hVr'.out _ hx4.out.bel).mono ?_
  unfold RVals10
  rintro e w5 ⟨⟨vl, vo, rfl, hok, hbad⟩, hb5⟩
  have hx5 := Lib.hid (hx4.out.step hb5)
  clear hb5 hx4 hVr' k0 k1 k2 k3 k4 k5
  by_cases he : valsE g W n N = 0
  case neg =>
    have d3 : (valsE g W n N != 0) = true := by simpa using he
    obtain ⟨rfl, rfl⟩ := hbad he
    clear hok hbad he
    go_wp2_with (go_at_call 11; (with_reducible refine (hwk.out _).mono ?_); rintro e w6 ⟨rfl, hb6⟩; have hx6 := Lib.hid (hx5.out.step hb6))
    go_ret
    exact ⟨rfl, hx6.out.bel⟩
  obtain ⟨hl, ho⟩ := hok he
  have hE := Lib.hid (valsE_ok he)
  have hl' := Lib.hid hl
  have ho' := Lib.hid ho
  obtain ⟨LA, lc, rfl, -⟩ := hl
  obtain ⟨OA, oc, rfl, -⟩ := ho
  rw [he]
  clear hok hbad he
  go_wp2_with fail
  go_loopw [59] (fun i wr => ∃ j : Nat, j ≤ n ∧ i = .int .i64 j ∧ Hid (∀ i, i < j → (evF g W N n i).2 = false) ∧ Hid (Bx w (q10K w (.slice SA g.ns sc) (.slice FA g.nf fc) (.slice MA g.nm mc) (.slice ZA W.nz zc) (.slice WA W.nf wq) (.slice TA n tc)) wr ∧ Below w5.heap.size w5 wr)) (fun i _ => n - (intOf i).toNat)
  case atStart => exact ⟨0, Nat.zero_le _, rfl, fun i hi => absurd hi (Nat.not_lt_zero i), hx5.out, Below.refl _ _⟩
  case round =>
  clear hx5
  obtain ⟨j, hj, rfl, hov, hx⟩ := hrel
  by_cases hlt : j < n
  · have i1 : decide ((j : Int) < (n : Int)) = true := decide_eq_true (by omega)
    obtain ⟨_, _, e1, hc1⟩ := ho'.out
    injection e1 with e11 _ e13
    subst e11; subst e13
    obtain ⟨b1, o1, rfl, hb1, hc1⟩ := hc1 (by omega)
    have r1 := (hx.out.2.cell (p := ⟨b1, o1 + j, none⟩) hb1).trans (hc1 j hlt)
    have hj0 : (0 : Int) ≤ (j : Int) := by omega
    have hjn : (j : Int) < (n : Int) := by omega
    have hnx : Hid ((evF g W N n j).2 = false → ∀ i, i < j + 1 → (evF g W N n i).2 = false) := fun h i hi => by
      by_cases e : i = j
      · subst e; exact h
      · exact hov.out i (by omega)
    dsimp only at r1
    generalize (evF g W N n j).2 = ob at *
    clear hc1
    cases ob with
    | true =>
      go_wp2_with (go_at_call 11; (with_reducible refine (hwk.out _).mono ?_); rintro e w6 ⟨rfl, hb6⟩; have hx6 := Lib.hid (hx.out.1.step hb6))
      go_ret
      exact ⟨rfl, hx6.out.bel⟩
    | false =>
      go_wp2_with fail
      go_roundw
      case rel => exact ⟨j + 1, by omega, by go_num, hnx.out rfl, hx.out⟩
      case measure => simp [intOf]; omega
  have i1 : decide ((j : Int) < (n : Int)) = false := decide_eq_false (by omega)
  obtain rfl : j = n := by omega
  have hsome : Hid (someT g W j N f m = true) := by
    obtain ⟨x, hx1, hx2⟩ := lemma_holds hE.out hxs.out.2 hck'.out hov.out
    obtain ⟨i, hi, rfl⟩ := List.mem_map.1 hx1
    exact someT_yes hx2 m (List.mem_range.1 hi)
  have hbl : Hid (∀ i, i < m → badLit j N (f i) = false) := fun i hi => hxs.out.2 _ (List.mem_map.2 ⟨i, List.mem_range.2 hi, rfl⟩)
  have hx7 := hx
  clear hx ho' hov hck' hxs hE hlt
  go_wp2_with fail
  go_loopw [12, 70] (fun s i wr => ∃ k : Nat, k ≤ m ∧ i = .int .i64 k ∧ s = .bool (someT g W j N f k) ∧ Hid (Bx w (q10K w (.slice SA g.ns sc) (.slice FA g.nf fc) (.slice MA g.nm mc) (.slice ZA W.nz zc) (.slice WA W.nf wq) (.slice TA j tc)) wr ∧ Below w5.heap.size w5 wr)) (fun _ i _ => m - (intOf i).toNat)
  case atStart => exact ⟨0, Nat.zero_le _, rfl, rfl, hx7.out⟩
  case round =>
  clear hx7
  obtain ⟨k, hk, rfl, rfl, hx⟩ := hrel
  by_cases hlt : k < m
  · have i2 : decide ((k : Int) < (m : Int)) = true := decide_eq_true (by omega)
    obtain ⟨x0, x1, -, -⟩ := badLit_lt (hbl.out k hlt)
    obtain ⟨_, _, e1, -, -, hc1⟩ := hl'.out
    injection e1 with e11 _ e13
    subst e11; subst e13
    obtain ⟨b1, o1, rfl, hb1, hc1⟩ := hc1 (by omega)
    obtain ⟨_, _, e2, -, -, hc2⟩ := hu'.out
    injection e2 with e21 _ e23
    subst e21; subst e23
    obtain ⟨b2, o2, rfl, hb2, hc2⟩ := hc2 (by omega)
    have r1 := (hx.out.2.cell (p := ⟨b1, o1 + (f k / 2).toNat, none⟩) hb1).trans (hc1 _ x1)
    have r2 := (hx.out.1.bel.cell (p := ⟨b2, o2 + k, none⟩) hb2).trans (hc2 k hlt)
    have hnx := Lib.hid (show someT g W j N f (k + 1) = (someT g W j N f k || (((evF g W N j (f k / 2).toNat).1 == 1) == (f k % 2 == 0))) from rfl)
    have hbo := bits_one (f k)
    have h20 : (0 : Int) ≤ f k / 2 := by omega
    have h21 : f k / 2 < (j : Int) := by omega
    have hk0 : (0 : Int) ≤ (k : Int) := by omega
    have hkn : (k : Int) < (m : Int) := by omega
    dsimp only at r1 r2
    clear hc1 hc2
    generalize (evF g W N j (f k / 2).toNat).1 = val at *
    generalize f k = X at *
    generalize someT g W j N f k = sb at *
    cases sb with
    | true =>
      go_wp2_with fail
      go_roundw
      case rel => exact ⟨k + 1, by omega, by go_num, by rw [hnx.out]; rfl, hx.out⟩
      case measure => simp [intOf]; omega
    | false =>
      go_wp2_with fail
      go_roundw
      case rel => exact ⟨k + 1, by omega, by go_num, by rw [hnx.out]; rfl, hx.out⟩
      case measure => simp [intOf]; omega
  have i2 : decide ((k : Int) < (m : Int)) = false := decide_eq_false (by omega)
  obtain rfl : k = m := by omega
  rw [hsome.out]
  clear hsome
  go_wp2_with (go_at_call 11; (with_reducible refine (hwk.out _).mono ?_); rintro e w6 ⟨rfl, hb6⟩; have hx6 := Lib.hid (hx.out.1.step hb6))
  go_ret
  exact ⟨rfl, hx6.out.bel⟩
end Go.Proofs.Ytioceechdombjaa
