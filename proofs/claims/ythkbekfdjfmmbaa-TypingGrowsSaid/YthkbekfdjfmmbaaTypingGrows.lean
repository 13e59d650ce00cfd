/- The law TypingGrows: the walk. -/
import Derived.Test.YthkbekfdjfmmbaaGrowP
import Derived.Test.YthkbekfdjfmmbaaRPut
import Derived.Test.YthkbekfdjfmmbaaGreat5
import Derived.Test.YthkbekfdjfmmbaaGreatG
import Derived.Test.YthkbekfdjfmmbaaWakes06
namespace Go.Proofs.Ythkbekfdjfmmbaa
open Go.RowKit
set_option maxRecDepth 1000000

theorem sorted_R {Y : Nd} (h : NdR Y) (h0 : 0 ≤ Y.sort) (h6 : Y.sort < 6) : NdR (Y.sorted (Y.sort + 1)) :=
  ⟨h.op, h.len, h.a0, h.a1, h.a2, ⟨by show -9223372036854775808 ≤ Y.sort + 1; omega, by show Y.sort + 1 ≤ 9223372036854775807; omega⟩, h.fn, h.num⟩
set_option maxHeartbeats 16000000 in
theorem TypingGrows_any (sv fv mv tv av : Value) (g : Sg) (n : Nat) (N : Nat → Nd) (op : Int) (m : Nat) (A : Nat → Int) (f k : Int) (w : World) (hG : SgAt w sv fv mv g) (hv : NdsAt w tv n N) (h8 : R8 op) (ha : IntsAt w av m A) (hfr : R64 f) (hkr : R64 k) :
    Calls Try.prog 9 #[.agg #[sv, fv, mv], .agg #[tv], .int .i8 op, av, .int .i64 f, .int .i64 k] w fun e w' => e = .returned (.bool true) ∧ Below w.heap.size w w' := by
  have hwk := Lib.hid wakes06_any
  have hG' := Lib.hid hG
  obtain ⟨SA, c, rfl, -, -⟩ := hG.1
  obtain ⟨FA, fc, rfl, -, -⟩ := hG.2.1
  obtain ⟨MA, mc, rfl, -, -⟩ := hG.2.2
  have hv' := Lib.hid hv
  have ha' := Lib.hid ha
  have h8' := Lib.hid h8
  have hfr' := Lib.hid hfr
  have hkr' := Lib.hid hkr
  obtain ⟨TA, tc, rfl, -, -, -⟩ := hv
  obtain ⟨U, cu, rfl, hm63, -, -⟩ := ha
  have hx0 := Lib.hid (toK_bx w (.slice SA g.ns c) (.slice FA g.nf fc) (.slice MA g.nm mc) (.slice TA n tc))
  clear hG h8 hfr hkr
  go_enter Try.func9, Try.ntmps9
  go_wp2_with fail
  refine (Great_any _ _ _ g _ (hG'.out.below hx0.out.bel)).mono ?_
  rintro e w1 ⟨⟨bb, rfl, hfew⟩, hb1⟩
  have hx1 := Lib.hid (hx0.out.step hb1)
  have hfew' := Lib.hid hfew
  clear hb1 hx0 hfew
  cases bb with
  | true =>
    go_wp2_with (go_at_call 21; (with_reducible refine (hwk.out _).mono ?_); rintro e w2 ⟨rfl, hb2⟩; have hx2 := Lib.hid (hx1.out.step hb2))
    go_ret
    exact ⟨rfl, hx2.out.bel⟩
  | false =>
    have hfw := Lib.hid (hfew'.out rfl)
    obtain ⟨⟨k0, -⟩, ⟨k1, -⟩, ⟨k2, -⟩, ⟨k3, -⟩, -⟩ := hx1.out.cells
    have hg5 := Lib.hid (Great5_any _ n N w1 (hv'.out.below hx1.out.bel))
    clear hfew'
    go_wp2_with fail
    refine hg5.out.mono ?_
    rintro e w2 ⟨rfl, hb2⟩
    have hx2 := Lib.hid (hx1.out.step hb2)
    clear hb2 hg5 hx1 k0 k1 k2 k3
    by_cases hn3 : 300 < n
    · have d1 : decide (300 < n) = true := decide_eq_true hn3
      clear hn3
      go_wp2_with (go_at_call 21; (with_reducible refine (hwk.out _).mono ?_); rintro e w3 ⟨rfl, hb3⟩; have hx3 := Lib.hid (hx2.out.step hb3))
      go_ret
      exact ⟨rfl, hx3.out.bel⟩
    · have d1 : decide (300 < n) = false := decide_eq_false hn3
      have hn : n ≤ 300 := by omega
      clear hn3
      by_cases hm20 : 20 < m
      · have d2 : decide ((20 : Int) < (m : Int)) = true := decide_eq_true (by omega)
        clear hm20
        go_wp2_with (go_at_call 21; (with_reducible refine (hwk.out _).mono ?_); rintro e w3 ⟨rfl, hb3⟩; have hx3 := Lib.hid (hx2.out.step hb3))
        go_ret
        exact ⟨rfl, hx3.out.bel⟩
      · have d2 : decide ((20 : Int) < (m : Int)) = false := decide_eq_false (by omega)
        clear hm20
        obtain ⟨⟨k0, -⟩, ⟨k1, -⟩, ⟨k2, -⟩, ⟨k3, -⟩, -⟩ := hx2.out.cells
        have hT := Lib.hid (TTable_any _ _ _ _ g n N w2 (hG'.out.below hx2.out.bel) hfw.out (hv'.out.below hx2.out.bel) (by omega))
        go_wp2_with fail
        refine hT.out.mono ?_
        rintro e w3 ⟨rfl, hb3⟩
        have hx3 := Lib.hid (hx2.out.step hb3)
        clear hb3 hT hx2 k0 k1 k2 k3
        by_cases ht : tabT g n N = 0
        · have d3 : (tabT g n N != 0) = false := by simpa using ht
          have ht' := Lib.hid ht
          clear ht
          have hMk := Lib.hid (TMake_any _ _ _ _ _ g n N op m A f k w3 (hG'.out.below hx3.out.bel) hfw.out (hv'.out.below hx3.out.bel) (by omega) h8'.out (ha'.out.below hx3.out.bel) hfr'.out hkr'.out)
          obtain ⟨⟨k0, -⟩, ⟨k1, -⟩, ⟨k2, -⟩, ⟨k3, -⟩, -⟩ := hx3.out.cells
          have hen := run_eqNd
          go_wp2_with fail
          refine hMk.out.mono ?_
          rintro e w4 ⟨rfl, hb4⟩
          have hx4 := Lib.hid (hx3.out.step hb4)
          clear hb4 hMk hx3 k0 k1 k2 k3
          rcases make_cases g n N op m A f k with hr | hr | ⟨hm3, s, hmay, hs, hr⟩
          · rw [show ndV (makeT g n N op m A f k).1 = .agg #[.int .i8 0, .int .i8 0, .int .i64 0, .int .i64 0, .int .i64 0, .int .i64 0, .int .i64 0, .int .i64 0] by rw [hr]; rfl, show (makeT g n N op m A f k).2 = 2 by rw [hr]]
            have hq : ndEq 0 0 0 0 0 0 0 0 0 0 0 0 0 0 0 0 = true := by decide
            clear hr
            go_wp2_with (go_at_call 21; (with_reducible refine (hwk.out _).mono ?_); rintro e w5 ⟨rfl, hb5⟩; have hx5 := Lib.hid ((hx4.out.skip _).step hb5))
            go_ret
            exact ⟨rfl, hx5.out.bel⟩
          · rw [show ndV (makeT g n N op m A f k).1 = .agg #[.int .i8 0, .int .i8 0, .int .i64 0, .int .i64 0, .int .i64 0, .int .i64 0, .int .i64 0, .int .i64 0] by rw [hr]; rfl, show (makeT g n N op m A f k).2 = 33 by rw [hr]]
            have hq : ndEq 0 0 0 0 0 0 0 0 0 0 0 0 0 0 0 0 = true := by decide
            clear hr
            go_wp2_with (go_at_call 21; (with_reducible refine (hwk.out _).mono ?_); rintro e w5 ⟨rfl, hb5⟩; have hx5 := Lib.hid ((hx4.out.skip _).step hb5))
            go_ret
            exact ⟨rfl, hx5.out.bel⟩
          · have hXR := mkNd_R (op := op) (m := m) (A := A) h8'.out hm3 (by obtain ⟨_, _, _, _, hr, _⟩ := ha'.out; exact hr) hfr'.out hkr'.out
            obtain ⟨hn0, hn1, hs0, hs6⟩ := grow_node ht'.out hmay hs
            have hput := Lib.hid fun m' M a er h => grow_put (m := m') (M := M) (a := a) (er := er) ht'.out hmay hs h
            rw [show ndV (makeT g n N op m A f k).1 = ndV ((mkNd op m A f k).sorted s) by rw [hr], show (makeT g n N op m A f k).2 = 0 by rw [hr]]
            obtain ⟨Y, hY⟩ : ∃ Y, Y = (mkNd op m A f k).sorted s := ⟨_, rfl⟩
            have hYR : Hid (NdR Y) := by
              rw [hY]
              exact ⟨hXR.op, hXR.len, hXR.a0, hXR.a1, hXR.a2, ⟨by show -9223372036854775808 ≤ s; omega, by show s ≤ 9223372036854775807; omega⟩, hXR.fn, hXR.num⟩
            have hsY : Y.sort = s := by rw [hY]; rfl
            have hY2 : (mkNd op m A f k).sorted (s + 1) = Y.sorted (Y.sort + 1) := by rw [hY]; rfl
            rw [hY2] at hn1
            rw [← hY] at hput hn0 ⊢
            have hYs0 : 0 ≤ Y.sort := by omega
            have hYs6 : Y.sort < 6 := by omega
            have hn0' := Lib.hid hn0
            have hn1' := Lib.hid hn1
            clear hY hY2 hs hr hmay hm3 hXR hn0 hn1 hsY hs0 hs6
            unfold ndV
            have hx5 := Lib.hid (hx4.out.skip (.cells #[.int .i8 Y.op, .int .i8 Y.len, .int .i64 Y.a0, .int .i64 Y.a1, .int .i64 Y.a2, .int .i64 Y.sort, .int .i64 Y.fn, .int .i64 Y.num] 62))
            have hb13 : Hid (ResAt (w4.alloc (.cells #[.int .i8 Y.op, .int .i8 Y.len, .int .i64 Y.a0, .int .i64 Y.a1, .int .i64 Y.a2, .int .i64 Y.sort, .int .i64 Y.fn, .int .i64 Y.num] 62)) w4.heap.size Y) := heap_alloc_new w4 _
            have hP := Lib.hid (RPut_any _ n N Y ((n : Int) + 1) _ (hv'.out.below hx5.out.bel) (by omega) hYR.out (by unfold R64; omega))
            unfold ndV at hP
            obtain ⟨⟨k0, -⟩, ⟨k1, -⟩, ⟨k2, -⟩, ⟨k3, -⟩, -⟩ := hx5.out.cells
            clear k1 k2 k3
            go_wp2_with fail
            refine hP.out.mono ?_
            rintro e w6 ⟨v6, m6, M, a6, er6, rfl, hPR, hN6, hb6⟩
            obtain ⟨rfl, j, rfl, hj, hMj, htM, hm6⟩ := hput.out m6 M a6 er6 hPR
            have hx6 := Lib.hid (hx5.out.step hb6)
            have hb13' := Lib.hid (hb13.out.step hb6)
            have hN6' := Lib.hid hN6
            have hMj' := Lib.hid hMj
            have htM' := Lib.hid htM
            obtain ⟨B6, c6, rfl, -, -, hcs6⟩ := hN6
            obtain ⟨b6, o6, rfl, hbl6, hcs6⟩ := hcs6 (by omega)
            have hcj := Lib.hid (hcs6 j hj)
            clear hPR hb6 hP hput hx5 hb13 k0 hMj htM hcs6
            obtain ⟨W7, hW7⟩ : ∃ W7, W7 = w6.alloc (.cells #[.slice (some ⟨b6, o6, none⟩) m6 c6] 60) := ⟨_, rfl⟩
            have hx7 : Bx w (toK w (.slice SA g.ns c) (.slice FA g.nf fc) (.slice MA g.nm mc) (.slice TA n tc)) W7 := by rw [hW7]; exact hx6.out.skip _
            have hb7 : ResAt W7 w4.heap.size Y := by rw [hW7]; exact hb13'.out.alloc _
            have hk15 : W7.cell? ⟨w6.heap.size, 0, none⟩ = some (.slice (some ⟨b6, o6, none⟩) m6 c6) ∧ w6.heap.size < W7.heap.size := by rw [hW7]; exact ⟨by simp, by simp⟩
            have hbe7 : Below w6.heap.size w6 W7 := by rw [hW7]; exact (Below.refl _ _).alloc (Nat.le_refl _) _
            have hNd7 : NdIn W7 b6 (o6 + j * 8) Y := by rw [← hMj'.out]; exact hcj.out.below hbe7 hbl6
            have hN7 : NdsAt W7 (.slice (some ⟨b6, o6, none⟩) m6 c6) m6 M := hN6'.out.below hbe7
            have hT7 := Lib.hid fun x (hb : Below W7.heap.size W7 x) => TTable_any _ _ _ _ g m6 M x (hG'.out.below (hx7.step hb).bel) hfw.out (hN7.below hb) (by omega)
            rw [htM'.out] at hT7
            have hNo := Lib.hid fun x (hb : Below W7.heap.size W7 x) => TNode_any _ _ _ _ g n N Y x (hG'.out.below (hx7.step hb).bel) hfw.out (hv'.out.below (hx7.step hb).bel) (by omega) hYR.out
            rw [hn0'.out] at hNo
            unfold ndV at hNo
            have hKp : ∀ {x : World}, Below W7.heap.size W7 x → (x.cell? ⟨w.heap.size, 0, none⟩ = some (.slice SA g.ns c) ∧ x.cell? ⟨w.heap.size, 1, none⟩ = some (.slice FA g.nf fc) ∧ x.cell? ⟨w.heap.size, 2, none⟩ = some (.slice MA g.nm mc) ∧ x.cell? ⟨w.heap.size + 1, 0, none⟩ = some (.slice TA n tc) ∧ x.cell? ⟨w6.heap.size, 0, none⟩ = some (.slice (some ⟨b6, o6, none⟩) m6 c6)
              ∧ x.cell? ⟨w4.heap.size, 0, none⟩ = some (.int .i8 Y.op) ∧ x.cell? ⟨w4.heap.size, 1, none⟩ = some (.int .i8 Y.len) ∧ x.cell? ⟨w4.heap.size, 2, none⟩ = some (.int .i64 Y.a0) ∧ x.cell? ⟨w4.heap.size, 3, none⟩ = some (.int .i64 Y.a1) ∧ x.cell? ⟨w4.heap.size, 4, none⟩ = some (.int .i64 Y.a2) ∧ x.cell? ⟨w4.heap.size, 5, none⟩ = some (.int .i64 Y.sort) ∧ x.cell? ⟨w4.heap.size, 6, none⟩ = some (.int .i64 Y.fn) ∧ x.cell? ⟨w4.heap.size, 7, none⟩ = some (.int .i64 Y.num)
              ∧ x.cell? ⟨b6, o6 + j * 8, none⟩ = some (.int .i8 Y.op) ∧ x.cell? ⟨b6, o6 + j * 8 + 1, none⟩ = some (.int .i8 Y.len) ∧ x.cell? ⟨b6, o6 + j * 8 + 2, none⟩ = some (.int .i64 Y.a0) ∧ x.cell? ⟨b6, o6 + j * 8 + 3, none⟩ = some (.int .i64 Y.a1) ∧ x.cell? ⟨b6, o6 + j * 8 + 4, none⟩ = some (.int .i64 Y.a2) ∧ x.cell? ⟨b6, o6 + j * 8 + 5, none⟩ = some (.int .i64 Y.sort) ∧ x.cell? ⟨b6, o6 + j * 8 + 6, none⟩ = some (.int .i64 Y.fn) ∧ x.cell? ⟨b6, o6 + j * 8 + 7, none⟩ = some (.int .i64 Y.num)) := fun {x} hb => by
              obtain ⟨⟨k0, -⟩, ⟨k1, -⟩, ⟨k2, -⟩, ⟨k3, -⟩, -⟩ := (hx7.step hb).cells
              obtain ⟨r0, r1, r2, r3, r4, r5, r6, r7, -⟩ := (hb7.step hb).cells
              obtain ⟨s0, s1, s2, s3, s4, s5, s6, s7⟩ := hNd7.below hb (Nat.lt_of_lt_of_le hbl6 hbe7.size)
              exact ⟨k1, k2, k3, k0, (hb.cell (p := ⟨w6.heap.size, 0, none⟩) hk15.2).trans hk15.1, r0, r1, r2, r3, r4, r5, r6, r7, s0, s1, s2, s3, s4, s5, s6, s7⟩
            have hb0 : Below W7.heap.size W7 W7.drew := (Below.refl _ _).drew
            have heq : ndEq Y.op Y.len Y.a0 Y.a1 Y.a2 Y.sort Y.fn Y.num Y.op Y.len Y.a0 Y.a1 Y.a2 Y.sort Y.fn Y.num = true := (ndEq_eq Y Y).trans (decide_eq_true rfl)
            have hx7' := Lib.hid hx7
            have hz4 := Lib.hid hx4.out.bel.size
            have hb7' := Lib.hid hb7
            have hW7' := Lib.hid hW7
            have hzb : b6 < W7.heap.size := Nat.lt_of_lt_of_le hbl6 hbe7.size
            clear hW7 hx6 hb13' hN6' hcj hx7 hb7 hk15 hbe7 hNd7 hN7 htM' hMj' hn0' hbl6
            go_upto_region 7 with fail
            rw [← hW7'.out]
            go_region_held3 (fun x => x.cell? ⟨w.heap.size, 0, none⟩ = some (.slice SA g.ns c) ∧ x.cell? ⟨w.heap.size, 1, none⟩ = some (.slice FA g.nf fc) ∧ x.cell? ⟨w.heap.size, 2, none⟩ = some (.slice MA g.nm mc) ∧ x.cell? ⟨w.heap.size + 1, 0, none⟩ = some (.slice TA n tc) ∧ x.cell? ⟨w6.heap.size, 0, none⟩ = some (.slice (some ⟨b6, o6, none⟩) m6 c6)
              ∧ x.cell? ⟨w4.heap.size, 0, none⟩ = some (.int .i8 Y.op) ∧ x.cell? ⟨w4.heap.size, 1, none⟩ = some (.int .i8 Y.len) ∧ x.cell? ⟨w4.heap.size, 2, none⟩ = some (.int .i64 Y.a0) ∧ x.cell? ⟨w4.heap.size, 3, none⟩ = some (.int .i64 Y.a1) ∧ x.cell? ⟨w4.heap.size, 4, none⟩ = some (.int .i64 Y.a2) ∧ x.cell? ⟨w4.heap.size, 5, none⟩ = some (.int .i64 Y.sort) ∧ x.cell? ⟨w4.heap.size, 6, none⟩ = some (.int .i64 Y.fn) ∧ x.cell? ⟨w4.heap.size, 7, none⟩ = some (.int .i64 Y.num)
              ∧ x.cell? ⟨b6, o6 + j * 8, none⟩ = some (.int .i8 Y.op) ∧ x.cell? ⟨b6, o6 + j * 8 + 1, none⟩ = some (.int .i8 Y.len) ∧ x.cell? ⟨b6, o6 + j * 8 + 2, none⟩ = some (.int .i64 Y.a0) ∧ x.cell? ⟨b6, o6 + j * 8 + 3, none⟩ = some (.int .i64 Y.a1) ∧ x.cell? ⟨b6, o6 + j * 8 + 4, none⟩ = some (.int .i64 Y.a2) ∧ x.cell? ⟨b6, o6 + j * 8 + 5, none⟩ = some (.int .i64 Y.sort) ∧ x.cell? ⟨b6, o6 + j * 8 + 6, none⟩ = some (.int .i64 Y.fn) ∧ x.cell? ⟨b6, o6 + j * 8 + 7, none⟩ = some (.int .i64 Y.num))
              (first | exact hKp hb0 | exact hKp hb8 | exact hKp hb9 | fail)
              (first | (go_at_call 29; (with_reducible refine (hT7.out _ hb0).mono ?_); rintro e w8 ⟨rfl, hb8⟩; replace hb8 := hb0.trans hb8) | (go_at_call 27; (with_reducible refine (hNo.out _ hb8).mono ?_); rintro e w9 ⟨rfl, hb9⟩; replace hb9 := hb8.trans (hb9.mono hb8.size)) | fail)
            all_goals have hx9 := Lib.hid (hx7'.out.step hb9)
            all_goals have hr9 := Lib.hid (hb7'.out.step hb9)
            all_goals clear hb0 hb8 hb9 hKp heq hT7 hNo hW7'
            all_goals obtain ⟨r0, r1, r2, r3, r4, r5, r6, r7, r8⟩ := hr9.out.cells
            all_goals obtain ⟨⟨k0, -⟩, ⟨k1, -⟩, ⟨k2, -⟩, ⟨k3, -⟩, -⟩ := hx9.out.cells
            all_goals have hbw := Lib.hid (hx9.out.bel.setCell (p := ⟨w4.heap.size, 5, none⟩) hz4.out (.int .i64 (Y.sort + 1)))
            all_goals have hN2 := TNode_any _ _ _ _ g n N (Y.sorted (Y.sort + 1)) _ (hG'.out.below hbw.out) hfw.out (hv'.out.below hbw.out) (by omega) (sorted_R hYR.out hYs0 hYs6)
            all_goals unfold ndV Nd.sorted at hN2
            all_goals dsimp only at hN2
            all_goals have hN2' := Lib.hid hN2
            all_goals have dne : (nodeE g n N (Y.sorted (Y.sort + 1)) != 0) = true := by simpa using hn1'.out
            all_goals unfold Nd.sorted at dne
            all_goals clear hN2
            all_goals go_wp2_with fail
            all_goals refine hN2'.out.mono ?_
            all_goals rintro e w10 ⟨rfl, hb10⟩
            all_goals have hbw10 := Lib.hid (hbw.out.trans (hb10.mono hbw.out.size))
            all_goals clear hb10 hN2' r0 r1 r2 r3 r4 r5 r6 r7 r8 k0 k1 k2 k3
            all_goals go_wp2_with (go_at_call 21; (with_reducible refine (hwk.out _).mono ?_); rintro e w11 ⟨rfl, hb11⟩; have hb12 := Lib.hid (hbw10.out.trans (hb11.mono hbw10.out.size)))
            all_goals go_ret
            all_goals exact ⟨rfl, hb12.out⟩
        · have d3 : (tabT g n N != 0) = true := by simpa using ht
          clear ht
          go_wp2_with (go_at_call 21; (with_reducible refine (hwk.out _).mono ?_); rintro e w4 ⟨rfl, hb4⟩; have hx4 := Lib.hid (hx3.out.step hb4))
          go_ret
          exact ⟨rfl, hx4.out.bel⟩
end Go.Proofs.Ythkbekfdjfmmbaa
