/- gantryref11.Put, gantryref01.Sub, gantryref11.Diff, Le, Add. -/
import Derived.Test.YtecmoahadckomaaZOffDOffGR11Of
import Derived.Test.YtecmoahadckomaaZRPut
namespace Go.Proofs.Ytecmoahadckomaa
open Go.RowKit Go.Maps
set_option maxRecDepth 100000

set_option maxHeartbeats 4000000 in
theorem R11Put_any (v : Value) (n : Nat) (N : Nat → Nd) (base k most : Int) (w : World) (hv : NdsAt w v n N) (hn : n ≤ 1000000) (hb : R64 base) (hk : R64 k) (hm : R64 most) :
    Calls Try.prog 70 #[.agg #[v], .int .i64 base, .int .i64 k, .int .i64 most] w (OPutPost n N base k most w) := by
  have hv' := Lib.hid hv
  obtain ⟨A, cp, rfl, _, _, _⟩ := hv
  have hx0 := bx_two w A n cp 24 24
  have hf0 := frz_two w A n cp 24 24
  go_enter Try.func70, Try.ntmps70
  go_wp2_with fail
  refine (R11Of_any _ n N base _ (hv'.out.below hx0.bel) hn hb).mono ?_
  rintro e w2 ⟨x, m, e2, rfl, hT1, hb2⟩
  have hx2 := hx0.step hb2
  have hf2 : w2.frozen? ⟨w.heap.size + 1, 0, none⟩ = false := (hb2.frozen (p := ⟨w.heap.size + 1, 0, none⟩) (by simp)).trans hf0
  clear hf0 hx0 hb2
  obtain ⟨⟨r0, zr⟩, ⟨q0, z0⟩, -⟩ := hx2.cells
  by_cases he2 : e2 = 0
  · subst he2
    by_cases hxb : x = base
    · subst hxb
      cases hmy : mayB k with
      | true =>
        have hmy' := Lib.hid hmy
        by_cases hz : x = 1
        · subst hz
          go_wp2_with fail
          refine (RMay_any k w2 hk.1 hk.2).mono ?_
          rintro e w3 ⟨rfl, rfl⟩
          rw [hmy'.out]
          clear hmy
          go_wp2_with fail
          refine (RPut_any _ n N (numNd k) most w2 (hv'.out.below hx2.bel) hn (numNd_R hk) hm).mono ?_
          rintro e w4 ⟨v4, m4, M4, a4, e4, rfl, hR4, hN4, hb4⟩
          have hR := Lib.hid (OPutR.zero m hT1 hmy'.out rfl m4 M4 a4 e4 hR4)
          have hx4 := hx2.step hb4
          have hf4 : w4.frozen? ⟨w.heap.size + 1, 0, none⟩ = false := (hb4.frozen (p := ⟨w.heap.size + 1, 0, none⟩) zr).trans hf2
          clear r0 zr q0 z0 hf2 hR4
          obtain ⟨⟨r0, zr⟩, ⟨q0, z0⟩, -⟩ := hx4.cells
          have hN4' := Lib.hid hN4
          obtain ⟨A4, c4, rfl, _, _, _⟩ := hN4
          go_wp2
          exact bodyPost_ret (results_tab2 rfl _ _ (w.heap.size + 1) (.slice A4 m4 c4) rfl (hx4.res _)) rfl ⟨_, m4, M4, a4, e4, rfl, hR.out, hN4'.out.setBox r0 (fun _ _ h => by cases h) _, hx4.bset _ _ (by omega) _⟩
        · have dz : (x == 1) = false := by simpa using hz
          by_cases h0 : k = 0
          · subst h0
            have hR := Lib.hid (OPutR.same (most := most) m hT1 hmy hz rfl)
            clear hmy hz
            go_wp2_with fail
            refine (RMay_any 0 w2 (by decide) (by decide)).mono ?_
            rintro e w3 ⟨rfl, rfl⟩
            rw [hmy'.out]
            go_wp2
            exact bodyPost_ret (results_tab2 rfl _ _ (w.heap.size + 1) (.slice A n cp) rfl (hx2.res _)) rfl ⟨_, n, N, x, 0, rfl, hR.out, hv'.out.below (hx2.bset _ _ (by omega) _), hx2.bset _ _ (by omega) _⟩
          · have d0 : (k == 0) = false := by simpa using h0
            have h0' := Lib.hid h0
            have hz' := Lib.hid hz
            clear hmy hz h0
            go_wp2_with fail
            refine (RMay_any k w2 hk.1 hk.2).mono ?_
            rintro e w3 ⟨rfl, rfl⟩
            rw [hmy'.out]
            go_wp2_with fail
            refine (RPut_any _ n N (addNd x k) most w2 (hv'.out.below hx2.bel) hn (addNd_R hb hk) hm).mono ?_
            rintro e w4 ⟨v4, m4, M4, a4, e4, rfl, hR4, hN4, hb4⟩
            have hR := Lib.hid (OPutR.add m hT1 hmy'.out hz'.out h0'.out m4 M4 a4 e4 hR4)
            have hx4 := hx2.step hb4
            have hf4 : w4.frozen? ⟨w.heap.size + 1, 0, none⟩ = false := (hb4.frozen (p := ⟨w.heap.size + 1, 0, none⟩) zr).trans hf2
            clear r0 zr q0 z0 hf2 hR4
            obtain ⟨⟨r0, zr⟩, ⟨q0, z0⟩, -⟩ := hx4.cells
            have hN4' := Lib.hid hN4
            obtain ⟨A4, c4, rfl, _, _, _⟩ := hN4
            go_wp2
            exact bodyPost_ret (results_tab2 rfl _ _ (w.heap.size + 1) (.slice A4 m4 c4) rfl (hx4.res _)) rfl ⟨_, m4, M4, a4, e4, rfl, hR.out, hN4'.out.setBox r0 (fun _ _ h => by cases h) _, hx4.bset _ _ (by omega) _⟩
      | false =>
        have hR := Lib.hid (OPutR.over (most := most) m hT1 hmy N)
        have hmy' := Lib.hid hmy
        clear hmy
        go_wp2_with fail
        refine (RMay_any k w2 hk.1 hk.2).mono ?_
        rintro e w3 ⟨rfl, rfl⟩
        rw [hmy'.out]
        go_wp2
        exact bodyPost_ret (results_tab2 rfl _ _ (w.heap.size + 1) (.slice none 0 0) rfl (hx2.res _)) rfl ⟨_, 0, N, 0, 10, rfl, hR.out, NdsAt.nil _ _, hx2.bset _ _ (by omega) _⟩
    · have dx : (x != base) = true := by simpa using hxb
      have hR := Lib.hid (OPutR.own (k := k) (most := most) x m hT1 hxb N)
      clear hxb
      go_wp2
      exact bodyPost_ret (results_tab2 rfl _ _ (w.heap.size + 1) (.slice none 0 0) rfl (hx2.res _)) rfl ⟨_, 0, N, 0, 2, rfl, hR.out, NdsAt.nil _ _, hx2.bset _ _ (by omega) _⟩
  · have d2 : (e2 != 0) = true := by simpa using he2
    have hR := Lib.hid (OPutR.of (k := k) (most := most) x m e2 hT1 he2 N)
    clear he2
    go_wp2
    exact bodyPost_ret (results_tab2 rfl _ _ (w.heap.size + 1) (.slice none 0 0) rfl (hx2.res _)) rfl ⟨_, 0, N, 0, e2, rfl, hR.out, NdsAt.nil _ _, hx2.bset _ _ (by omega) _⟩

/-- What Le gives. -/

theorem RSub_any (a b : Int) (w : World) (ha : R64 a) (hb : R64 b) :
    Calls Try.prog 92 #[.int .i64 a, .int .i64 b] w fun e w' => e = .returned (numV (subOk a b) (a - b)) ∧ w = w' := by
  have hV := subOk_wrap a b
  have hv2 := fun h => @subOk_val a b h
  cases h1 : mayB a with
  | false =>
    have hno : Hid (subOk a b = false) := by unfold Hid subOk; rw [h1]; rfl
    clear hV hv2
    go_enter Try.func92, Try.ntmps92
    go_wp2_with fail
    refine (RMay_any a w ha.1 ha.2).mono ?_
    rintro e w2 ⟨rfl, rfl⟩
    rw [h1]
    clear h1
    go_wp2
    go_ret2
    exact ⟨by rw [numV_no hno.out]; rfl, rfl⟩
  | true =>
    cases h2 : mayB b with
    | false =>
      have hno : Hid (subOk a b = false) := by unfold Hid subOk; rw [h1, h2]; rfl
      have h1' := Lib.hid h1
      have h2' := Lib.hid h2
      clear hV hv2 h1 h2
      go_enter Try.func92, Try.ntmps92
      go_wp2_with fail
      refine (RMay_any a w ha.1 ha.2).mono ?_
      rintro e w2 ⟨rfl, rfl⟩
      rw [h1'.out]
      go_wp2_with fail
      refine (RMay_any b w hb.1 hb.2).mono ?_
      rintro e w2 ⟨rfl, rfl⟩
      rw [h2'.out]
      go_wp2
      go_ret2
      exact ⟨by rw [numV_no hno.out]; rfl, rfl⟩
    | true =>
      have hR := Lib.hid (wrap64_R (a - b))
      have h1' := Lib.hid h1
      have h2' := Lib.hid h2
      rw [h1, h2] at hV
      simp only [Bool.true_and] at hV
      cases h3 : subOk a b with
      | true =>
        rw [h3] at hV
        have hV' := Lib.hid hV
        have hv3 := Lib.hid (hv2 h3)
        have h3' := Lib.hid h3
        clear hV hv2 h1 h2 h3
        go_enter Try.func92, Try.ntmps92
        go_wp2_with fail
        refine (RMay_any a w ha.1 ha.2).mono ?_
        rintro e w2 ⟨rfl, rfl⟩
        rw [h1'.out]
        go_wp2_with fail
        refine (RMay_any b w hb.1 hb.2).mono ?_
        rintro e w2 ⟨rfl, rfl⟩
        rw [h2'.out]
        go_wp2_with fail
        refine (RMay_any (wrap64 (a - b)) w hR.out.1 hR.out.2).mono ?_
        rintro e w2 ⟨rfl, rfl⟩
        rw [hV'.out]
        go_wp2
        go_ret2
        exact ⟨by rw [numV_yes rfl]; exact congrArg (fun z => Ending.returned (.tuple #[.int .i64 z, .int .i64 0])) hv3.out, rfl⟩
      | false =>
        rw [h3] at hV
        have hV' := Lib.hid hV
        have h3' := Lib.hid h3
        clear hV hv2 h1 h2 h3
        go_enter Try.func92, Try.ntmps92
        go_wp2_with fail
        refine (RMay_any a w ha.1 ha.2).mono ?_
        rintro e w2 ⟨rfl, rfl⟩
        rw [h1'.out]
        go_wp2_with fail
        refine (RMay_any b w hb.1 hb.2).mono ?_
        rintro e w2 ⟨rfl, rfl⟩
        rw [h2'.out]
        go_wp2_with fail
        refine (RMay_any (wrap64 (a - b)) w hR.out.1 hR.out.2).mono ?_
        rintro e w2 ⟨rfl, rfl⟩
        rw [hV'.out]
        go_wp2
        go_ret2
        exact ⟨rfl, rfl⟩

set_option maxHeartbeats 4000000 in
theorem R11Diff_any (v : Value) (n : Nat) (N : Nat → Nd) (a b c : Int) (w : World) (hv : NdsAt w v n N) (hn : n ≤ 1000000) (ha : R64 a) (hb : R64 b) (hc : R64 c) :
    Calls Try.prog 90 #[.agg #[v], .int .i64 a, .int .i64 b, .int .i64 c] w (DiffPost n N a b c w) := by
  have hv' := Lib.hid hv
  obtain ⟨A, cp, rfl, _, _, _⟩ := hv
  have hx0 := (Bx.nil w).one (.slice A n cp) 24
  go_enter Try.func90, Try.ntmps90
  go_wp2_with fail
  refine (R11Of_any _ n N a _ (hv'.out.below hx0.bel) hn ha).mono ?_
  rintro e w2 ⟨x, m, e2, rfl, hT1, hb2⟩
  have hx2 := hx0.step hb2
  obtain ⟨⟨q0, z0⟩, -⟩ := hx2.cells
  by_cases he2 : e2 = 0
  case neg =>
    have d2 : (e2 != 0) = true := by simpa using he2
    have hR := Lib.hid (DiffT.e1 (b := b) (c := c) x m e2 hT1 he2)
    clear he2
    go_wp2
    exact bodyPost_ret (results_tmp4 rfl _ _ _) rfl ⟨_, _, _, _, rfl, hR.out, hx2.bel⟩
  subst he2
  go_wp2_with fail
  refine (R11Of_any _ n N b _ (hv'.out.below hx2.bel) hn hb).mono ?_
  rintro e w3 ⟨y, k, e3, rfl, hT2, hb3⟩
  have hx3 := Lib.hid (hx2.step hb3)
  clear q0 z0 hb3 hx2
  by_cases he3 : e3 = 0
  case neg =>
    have d3 : (e3 != 0) = true := by simpa using he3
    have hR := Lib.hid (DiffT.e2 (c := c) x m hT1 y k e3 hT2 he3)
    clear he3
    go_wp2
    exact bodyPost_ret (results_tmp4 rfl _ _ _) rfl ⟨_, _, _, _, rfl, hR.out, hx3.out.bel⟩
  subst he3
  obtain ⟨_, hm, _⟩ := hT1.R hn
  obtain ⟨_, hk, _⟩ := hT2.R hn
  have hm' := Lib.hid hm
  have hk' := Lib.hid hk
  have hS := Lib.hid (RSub_any c m w3 hc (may_R hm))
  have hR := Lib.hid fun h1 h2 => DiffT.ok (n := n) (N := N) (a := a) (b := b) (c := c) x m hT1 y k hT2 h1 h2
  have hO := Lib.hid fun h => DiffT.over (n := n) (N := N) (a := a) (b := b) (c := c) x m hT1 y k hT2 h
  clear hm hk hT1 hT2
  cases h1 : subOk c m with
  | false =>
    rw [h1, numV_no rfl] at hS
    have hO' := Lib.hid (hO.out (fun h => by rw [h1] at h; exact absurd h.1 (by decide)))
    clear h1 hR hO
    go_wp2_with fail
    refine hS.out.mono ?_
    rintro e w4 ⟨rfl, rfl⟩
    go_wp2_with fail
    exact bodyPost_ret (results_tmp4 rfl _ _ _) rfl ⟨_, _, _, _, rfl, hO'.out, hx3.out.bel⟩
  | true =>
    rw [h1, numV_yes rfl] at hS
    have hcm : R64 (c - m) := by
      have := h1; unfold subOk at this; simp only [Bool.and_eq_true] at this; exact may_R this.2
    have hA := Lib.hid (RAdd_any (c - m) k w3 hcm (may_R hk'.out))
    have h1' := Lib.hid h1
    clear h1
    cases h2 : addOk (c - m) k with
    | false =>
      rw [h2, numV_no rfl] at hA
      have hO' := Lib.hid (hO.out (fun h => by rw [h2] at h; exact absurd h.2 (by decide)))
      clear h2 hR hO
      go_wp2_with fail
      refine hS.out.mono ?_
      rintro e w4 ⟨rfl, rfl⟩
      go_wp2_with fail
      refine hA.out.mono ?_
      rintro e w5 ⟨rfl, rfl⟩
      go_wp2_with fail
      exact bodyPost_ret (results_tmp4 rfl _ _ _) rfl ⟨_, _, _, _, rfl, hO'.out, hx3.out.bel⟩
    | true =>
      rw [h2, numV_yes rfl] at hA
      have hR' := Lib.hid (hR.out h1'.out h2)
      clear h2 hR hO
      go_wp2_with fail
      refine hS.out.mono ?_
      rintro e w4 ⟨rfl, rfl⟩
      go_wp2_with fail
      refine hA.out.mono ?_
      rintro e w5 ⟨rfl, rfl⟩
      go_wp2_with fail
      exact bodyPost_ret (results_tmp4 rfl _ _ _) rfl ⟨_, _, _, _, rfl, hR'.out, hx3.out.bel⟩
set_option maxHeartbeats 4000000 in
theorem R11Le_any (v : Value) (n : Nat) (N : Nat → Nd) (a b c most : Int) (w : World) (hv : NdsAt w v n N) (hn : n ≤ 1000000) (ha : R64 a) (hb : R64 b) (hc : R64 c) (hm : R64 most) :
    Calls Try.prog 85 #[.agg #[v], .int .i64 a, .int .i64 b, .int .i64 c, .int .i64 most] w (LePost n N a b c most w) := by
  have hv' := Lib.hid hv
  obtain ⟨A, cp, rfl, _, _, _⟩ := hv
  have hx0 := bx_two w A n cp 24 24
  have hf0 := frz_two w A n cp 24 24
  go_enter Try.func85, Try.ntmps85
  go_wp2_with fail
  refine (R11Diff_any _ n N a b c _ (hv'.out.below hx0.bel) hn ha hb hc).mono ?_
  rintro e w2 ⟨x, y, d, e2, rfl, hT, hb2⟩
  have hx2 := hx0.step hb2
  have hf2 : w2.frozen? ⟨w.heap.size + 1, 0, none⟩ = false := (hb2.frozen (p := ⟨w.heap.size + 1, 0, none⟩) (by simp)).trans hf0
  obtain ⟨hRx, hRy, hRd⟩ := hT.R hn
  clear hf0 hx0 hb2
  obtain ⟨⟨r0, zr⟩, ⟨q0, z0⟩, -⟩ := hx2.cells
  by_cases he2 : e2 = 0
  · subst he2
    by_cases hxy : x = y
    · subst hxy
      by_cases hd : 0 ≤ d
      · have hR := Lib.hid (LeT.tru (most := most) x d hT hd)
        have dd : decide (0 ≤ d) = true := by simpa using hd
        clear hd
        go_wp2
        exact bodyPost_ret (results_tab3 rfl _ _ (w.heap.size + 1) (.slice A n cp) rfl (hx2.res _)) rfl ⟨_, n, N, 0, false, 0, rfl, hR.out, hv'.out.below (hx2.bset _ _ (by omega) _), hx2.bset _ _ (by omega) _⟩
      · have dd : decide (0 ≤ d) = false := by simpa using hd
        have hd' := Lib.hid (show d < 0 by omega)
        clear hd
        go_wp2_with fail
        refine (RPut_any _ n N notNd most w2 (hv'.out.below hx2.bel) hn notNd_R hm).mono ?_
        rintro e w4 ⟨v4, m4, M4, a4, e4, rfl, hR4, hN4, hb4⟩
        have hR := Lib.hid (LeT.fls x d hT hd'.out m4 M4 a4 e4 hR4)
        have hx4 := hx2.step hb4
        have hf4 : w4.frozen? ⟨w.heap.size + 1, 0, none⟩ = false := (hb4.frozen (p := ⟨w.heap.size + 1, 0, none⟩) zr).trans hf2
        clear r0 zr q0 z0 hf2 hR4
        have hN4' := Lib.hid hN4
        obtain ⟨A4, c4, rfl, _, _, _⟩ := hN4
        have hx5 := hx4.skip (.cells #[.slice A4 m4 c4] 24)
        have hf5 : (w4.alloc (.cells #[.slice A4 m4 c4] 24)).frozen? ⟨w.heap.size + 1, 0, none⟩ = false := (((Below.refl w4.heap.size w4).alloc (Nat.le_refl _) _).frozen (p := ⟨w.heap.size + 1, 0, none⟩) hx4.cells.1.2).trans hf4
        have hc5 : (w4.alloc (.cells #[.slice A4 m4 c4] 24)).cell? ⟨w4.heap.size, 0, none⟩ = some (.slice A4 m4 c4) := by simp
        have hN5 := Lib.hid (hN4'.out.alloc (.cells #[.slice A4 m4 c4] 24))
        obtain ⟨⟨r0, zr⟩, ⟨q0, z0⟩, -⟩ := hx5.cells
        clear hf4 hx4
        generalize hW5 : w4.alloc (.cells #[.slice A4 m4 c4] 24) = w5 at *
        go_wp2
        exact bodyPost_ret (results_tab3 rfl _ _ (w.heap.size + 1) (.slice A4 m4 c4) rfl (hx5.res _)) rfl ⟨_, m4, M4, a4, false, e4, rfl, hR.out, hN5.out.setBox r0 (fun _ _ h => by cases h) _, hx5.bset _ _ (by omega) _⟩
    · have dxy : (x != y) = true := by simpa using hxy
      have hxy' := Lib.hid hxy
      clear hxy
      go_wp2_with fail
      refine (RPut_any _ n N (diffNd x y d) most w2 (hv'.out.below hx2.bel) hn (diffNd_R hRx hRy hRd) hm).mono ?_
      rintro e w4 ⟨v4, m4, M4, a4, e4, rfl, hR4, hN4, hb4⟩
      have hR := Lib.hid (LeT.diff x y d hT hxy'.out m4 M4 a4 e4 hR4)
      have hx4 := hx2.step hb4
      have hf4 : w4.frozen? ⟨w.heap.size + 1, 0, none⟩ = false := (hb4.frozen (p := ⟨w.heap.size + 1, 0, none⟩) zr).trans hf2
      clear r0 zr q0 z0 hf2 hR4
      have hN4' := Lib.hid hN4
      obtain ⟨A4, c4, rfl, _, _, _⟩ := hN4
      have hx5 := hx4.skip (.cells #[.slice A4 m4 c4] 24)
      have hf5 : (w4.alloc (.cells #[.slice A4 m4 c4] 24)).frozen? ⟨w.heap.size + 1, 0, none⟩ = false := (((Below.refl w4.heap.size w4).alloc (Nat.le_refl _) _).frozen (p := ⟨w.heap.size + 1, 0, none⟩) hx4.cells.1.2).trans hf4
      have hc5 : (w4.alloc (.cells #[.slice A4 m4 c4] 24)).cell? ⟨w4.heap.size, 0, none⟩ = some (.slice A4 m4 c4) := by simp
      have hN5 := Lib.hid (hN4'.out.alloc (.cells #[.slice A4 m4 c4] 24))
      obtain ⟨⟨r0, zr⟩, ⟨q0, z0⟩, -⟩ := hx5.cells
      clear hf4 hx4
      generalize hW5 : w4.alloc (.cells #[.slice A4 m4 c4] 24) = w5 at *
      go_wp2
      exact bodyPost_ret (results_tab3 rfl _ _ (w.heap.size + 1) (.slice A4 m4 c4) rfl (hx5.res _)) rfl ⟨_, m4, M4, a4, (e4 == 0), e4, rfl, hR.out, hN5.out.setBox r0 (fun _ _ h => by cases h) _, hx5.bset _ _ (by omega) _⟩
  · have d2 : (e2 != 0) = true := by simpa using he2
    have hR := Lib.hid (LeT.err (most := most) x y d e2 hT he2 N)
    clear he2
    go_wp2
    exact bodyPost_ret (results_tab3 rfl _ _ (w.heap.size + 1) (.slice none 0 0) rfl (hx2.res _)) rfl ⟨_, 0, N, 0, false, e2, rfl, hR.out, NdsAt.nil _ _, hx2.bset _ _ (by omega) _⟩

set_option maxHeartbeats 4000000 in
theorem R11Add_any (v : Value) (n : Nat) (N : Nat → Nd) (id x most : Int) (w : World) (hv : NdsAt w v n N) (hn : n ≤ 1000000) (hid : R64 id) (hx : R64 x) (hm : R64 most) :
    Calls Try.prog 71 #[.agg #[v], .int .i64 id, .int .i64 x, .int .i64 most] w (OAddPost n N id x most w) := by
  have hv' := Lib.hid hv
  obtain ⟨A, cp, rfl, _, _, _⟩ := hv
  have hx0 := bx_two w A n cp 24 24
  have hf0 := frz_two w A n cp 24 24
  go_enter Try.func71, Try.ntmps71
  go_wp2_with fail
  refine (R11Of_any _ n N id _ (hv'.out.below hx0.bel) hn hid).mono ?_
  rintro e w2 ⟨b, k, e2, rfl, hT, hb2⟩
  have hx2 := hx0.step hb2
  have hf2 : w2.frozen? ⟨w.heap.size + 1, 0, none⟩ = false := (hb2.frozen (p := ⟨w.heap.size + 1, 0, none⟩) (by simp)).trans hf0
  obtain ⟨hRb, hmk, _⟩ := hT.R hn
  have hmk' := Lib.hid hmk
  clear hf0 hx0 hb2 hmk
  obtain ⟨⟨r0, zr⟩, ⟨q0, z0⟩, -⟩ := hx2.cells
  by_cases he : e2 = 0
  case neg =>
    have hR := Lib.hid (OAddR.of (x := x) (most := most) b k e2 hT he N)
    have d2 : (e2 != 0) = true := by simpa using he
    clear he hT
    go_wp2
    exact bodyPost_ret (results_tab2 rfl _ _ (w.heap.size + 1) (.slice none 0 0) rfl (hx2.res _)) rfl ⟨_, 0, N, 0, e2, rfl, hR.out, NdsAt.nil _ _, hx2.bset _ _ (by omega) _⟩
  subst he
  have hS := Lib.hid (RAdd_any k x w2 (may_R hmk'.out) hx)
  cases ho : addOk k x with
  | false =>
    rw [ho, numV_no rfl] at hS
    have hR := Lib.hid (OAddR.over (most := most) b k hT ho N)
    clear ho hT
    go_wp2_with fail
    refine hS.out.mono ?_
    rintro e w3 ⟨rfl, rfl⟩
    go_wp2
    exact bodyPost_ret (results_tab2 rfl _ _ (w.heap.size + 1) (.slice none 0 0) rfl (hx2.res _)) rfl ⟨_, 0, N, 0, 10, rfl, hR.out, NdsAt.nil _ _, hx2.bset _ _ (by omega) _⟩
  | true =>
    rw [ho, numV_yes rfl] at hS
    have hR := Lib.hid fun m M a er => OAddR.put (most := most) b k hT ho m M a er
    have hRk : R64 (k + x) := addOk_R ho
    clear ho hT
    have hPA := Lib.hid (R11Put_any (.slice A n cp) n N b (k + x) most w2 (hv'.out.below hx2.bel) hn (by unfold R64; omega) hRk hm)
    go_wp2_with fail
    refine hS.out.mono ?_
    rintro e w3 ⟨rfl, rfl⟩
    go_wp2_with fail
    refine hPA.out.mono ?_
    rintro e w4 ⟨v4, m4, M4, a4, e4, rfl, hR4, hN4, hb4⟩
    have hR' := Lib.hid (hR.out m4 M4 a4 e4 hR4)
    have hx4 := hx2.step hb4
    have hf4 : w4.frozen? ⟨w.heap.size + 1, 0, none⟩ = false := (hb4.frozen (p := ⟨w.heap.size + 1, 0, none⟩) zr).trans hf2
    clear r0 zr q0 z0 hf2 hR4
    obtain ⟨⟨r0, zr⟩, ⟨q0, z0⟩, -⟩ := hx4.cells
    have hN4' := Lib.hid hN4
    obtain ⟨A4, c4, rfl, _, _, _⟩ := hN4
    go_wp2
    exact bodyPost_ret (results_tab2 rfl _ _ (w.heap.size + 1) (.slice A4 m4 c4) rfl (hx4.res _)) rfl ⟨_, m4, M4, a4, e4, rfl, hR'.out, hN4'.out.setBox r0 (fun _ _ h => by cases h) _, hx4.bset _ _ (by omega) _⟩
end Go.Proofs.Ytecmoahadckomaa
