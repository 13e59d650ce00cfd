/- gantryref04.Check. -/
import Derived.Test.YtecmoahadckomaaGreatZRCk4A
import Derived.Deep.RegionHeld3
import Derived.Deep.RegionLawGrows
namespace Go.Proofs.YtecmoahadckomaaGreat
open Go.RowKit
set_option maxRecDepth 1000000

set_option maxHeartbeats 16000000 in
theorem RCheck4_any (sv fv mv : Value) (g : Sg) (w : World) (hG : SgAt w sv fv mv g) :
    Calls Tryz.prog 29 #[.agg #[sv, fv, mv]] w fun e w' => e = .returned (.int .i64 (chV (checkG g))) ∧ Below w.heap.size w w' := by
  obtain ⟨V, hV, hVc⟩ := hG.2.2.vals
  have hG' := Lib.hid hG
  have hV' := Lib.hid hV
  have hVc' := Lib.hid hVc
  have hst := Lib.hid (Sofar.start w sv fv mv g V)
  have hSg := Lib.hid fun (a b c : Value) (i j k : Nat) (x : World) (h : Sofar w sv fv mv g V a b c i j k x) (hi : i ≤ g.ns) (hj : j ≤ g.nf) (hk : k ≤ g.nm) => h.sg hG hV hi hj hk
  have hS1 := Lib.hid fun (i : Nat) (hi : i < g.ns) => RowAt.at_ hG.1 hi
  have hF1 := Lib.hid fun (i : Nat) (hi : i < g.nf) => RowAt.at_ hG.2.1 hi
  obtain ⟨A, sc, rfl, -, -⟩ := hG.1
  obtain ⟨FA, fc, rfl, -, -⟩ := hG.2.1
  obtain ⟨MA, mc, rfl, -, -⟩ := hG.2.2
  have hR : Hid (checkG g = (decide (g.ns ≤ 4) && decide (g.nf ≤ 12) && decide (g.nm ≤ 12) && upTo g.ns (okSn g) && upTo g.nf (okFn g) && upTo g.nm (okMn g))) := rfl
  have hx0 := Lib.hid (sgR_bx w (.slice A g.ns sc) (.slice FA g.nf fc) (.slice MA g.nm mc))
  obtain ⟨k0, k1, k2⟩ := sgR_cells hx0.out
  clear hG hV hVc
  go_enter Tryz.func29, Tryz.ntmps29
  by_cases h1 : g.ns ≤ 4
  case neg =>
    have d1 : decide ((4 : Int) < (g.ns : Int)) = true := decide_eq_true (by omega)
    have hF : Hid (checkG g = false) := by unfold Hid; rw [hR.out, decide_eq_false h1]; rfl
    clear h1
    go_wp2_with fail
    go_ret
    exact ⟨by rw [hF.out]; rfl, hx0.out.bel⟩
  have d1 : decide ((4 : Int) < (g.ns : Int)) = false := decide_eq_false (by omega)
  by_cases h2 : g.nf ≤ 12
  case neg =>
    have d2 : decide ((12 : Int) < (g.nf : Int)) = true := decide_eq_true (by omega)
    have hF : Hid (checkG g = false) := by unfold Hid; rw [hR.out, decide_eq_false h2]; simp
    clear h1 h2
    go_wp2_with fail
    go_ret
    exact ⟨by rw [hF.out]; rfl, hx0.out.bel⟩
  have d2 : decide ((12 : Int) < (g.nf : Int)) = false := decide_eq_false (by omega)
  by_cases h3 : g.nm ≤ 12
  case neg =>
    have d3 : decide ((12 : Int) < (g.nm : Int)) = true := decide_eq_true (by omega)
    have hF : Hid (checkG g = false) := by unfold Hid; rw [hR.out, decide_eq_false h3]; simp
    clear h1 h2 h3
    go_wp2_with fail
    go_ret
    exact ⟨by rw [hF.out]; rfl, hx0.out.bel⟩
  have d3 : decide ((12 : Int) < (g.nm : Int)) = false := decide_eq_false (by omega)
  have hR1 : Hid (checkG g = (upTo g.ns (okSn g) && upTo g.nf (okFn g) && upTo g.nm (okMn g))) := by unfold Hid; rw [hR.out, decide_eq_true h1, decide_eq_true h2, decide_eq_true h3]; rfl
  have hnoS : Hid (∀ i, i < g.ns → okSn g i = false → checkG g = false) := fun i hi h => by rw [hR1.out, upTo_no hi h]; rfl
  have hnoF : Hid (∀ i, i < g.nf → okFn g i = false → checkG g = false) := fun i hi h => by rw [hR1.out, upTo_no hi h]; simp
  have hnoM : Hid (∀ i, i < g.nm → okMn g i = false → checkG g = false) := fun i hi h => by rw [hR1.out, upTo_no hi h]; simp
  have hyes : Hid ((∀ i, i < g.ns → okSn g i = true) → (∀ i, i < g.nf → okFn g i = true) → (∀ i, i < g.nm → okMn g i = true) → checkG g = true) := fun a b c => by rw [hR1.out, upTo_yes a, upTo_yes b, upTo_yes c]; rfl
  have hoS := Lib.hid fun i => okSn_free g i
  have hoF := Lib.hid fun i => okFn_free g i
  have hoM := Lib.hid fun i => okMn_free g i
  clear hR hR1
  go_wp2_with fail
  clear k0 k1 k2 d1 d2 d3
  go_loopw [4] (fun i wr => ∃ j : Nat, j ≤ g.ns ∧ i = .int .i64 j ∧ Hid (∀ k, k < j → okSn g k = true) ∧ Hid (∃ a, Sofar w (.slice A g.ns sc) (.slice FA g.nf fc) (.slice MA g.nm mc) g V a (.slice none 0 0) (.slice none 0 0) j 0 0 wr)) (fun i _ => g.ns - (intOf i).toNat)
  case atStart => exact ⟨0, Nat.zero_le _, rfl, fun k hk => absurd hk (Nat.not_lt_zero _), _, hst.out⟩
  case round =>
    clear hst hx0
    obtain ⟨j, hj, rfl, hall, hex⟩ := hrel
    obtain ⟨a, ha⟩ := hex.out
    have hx := Lib.hid ha
    clear ha hex
    obtain ⟨k0, k1, k2, k3, k4, k5⟩ := hx.out.cells
    by_cases hlt : j < g.ns
    · have i1 : decide ((j : Int) < (g.ns : Int)) = true := decide_eq_true (by omega)
      obtain ⟨sb, so, cc, e, hsb, hst⟩ := hS1.out j hlt
      injection e with e1 _ e3
      subst e1; subst e3
      have hK := Lib.hid fun (x : World) (h : Sofar w (.slice (some ⟨sb, so, none⟩) g.ns sc) (.slice FA g.nf fc) (.slice MA g.nm mc) g V a (.slice none 0 0) (.slice none 0 0) j 0 0 x) => (⟨h.cells.1, h.cells.2.1, h.cells.2.2.1, h.cells.2.2.2.1, h.cells.2.2.2.2.1, h.cells.2.2.2.2.2, (show x.cell? ⟨sb, so + j, none⟩ = some (.string (g.S j)) by
        have := (h.bx.bel.cell (p := ⟨sb, so + j * 1, none⟩) hsb).trans hst.1
        rwa [Nat.mul_one] at this)⟩ : _ ∧ _ ∧ _ ∧ _ ∧ _ ∧ _ ∧ _)
      have hFr := Lib.hid fun (x : World) (h : Sofar w (.slice (some ⟨sb, so, none⟩) g.ns sc) (.slice FA g.nf fc) (.slice MA g.nm mc) g V a (.slice none 0 0) (.slice none 0 0) j 0 0 x) => RFree_any a (.slice none 0 0) (.slice none 0 0) (g.pre j 0 0) (g.S j) true x (hSg.out _ _ _ _ _ _ x h hj (Nat.zero_le _) (Nat.zero_le _)) hst.2
      have hq := hoS.out j
      generalize freeR (g.pre j 0 0) (g.S j) true = r at *
      have hj0 : (0 : Int) ≤ (j : Int) := by omega
      have hjn : (j : Int) < (g.ns : Int) := by omega
      have hjd : decide (g.ns ≤ j) = false := decide_eq_false (by omega)
      clear hst
      cases hok : okSn g j with
      | false =>
        rw [hok] at hq; simp at hq
        have hF := Lib.hid (hnoS.out j hlt hok)
        clear hok
        go_upto_region 7 with fail
        refine region_cls (fun x => Sofar w (.slice (some ⟨sb, so, none⟩) g.ns sc) (.slice FA g.nf fc) (.slice MA g.nm mc) g V a (.slice none 0 0) (.slice none 0 0) j 0 0 x) (by kernel_rfl) (by kernel_rfl) (hx.out.step (Below.refl _ _).drew) ?_
        repeat (first
          | go_big_quiet_skip
          | (go_big_quiet_want; first
            | (go_big_quiet_op; go_big_quiet_on)
            | (unfold Oper.quiet; apply Exists.intro; refine ⟨fun x hx => ?_, ?_⟩; (obtain ⟨c0, c1, c2, c3, c4, c5, c6⟩ := hK.out x hx; unfold Oper.quietAt; first
                | (go_simp; exact ⟨rfl, rfl⟩)
                | (go_simp; exact rfl)
                | (go_simp; done)
                | (go_simp; go_at_call 60; refine (hFr.out x hx).mono ?_; rintro e w' ⟨rfl, hb'⟩; exact ⟨rfl, hx.step hb'⟩)
                | fail); go_simp; go_big_quiet_on)))
        refine wpQuiet_nil ?_
        rintro w6 hx6
        have hb6 := Lib.hid hx6.bx.bel
        clear hx6
        go_wp2_with fail
        go_ret
        exact ⟨by rw [hF.out]; rfl, hb6.out⟩
      | true =>
        rw [hok] at hq; simp at hq
        have hok' := Lib.hid hok
        clear hok
        go_upto_region 7 with fail
        refine region_cls (fun x => Sofar w (.slice (some ⟨sb, so, none⟩) g.ns sc) (.slice FA g.nf fc) (.slice MA g.nm mc) g V a (.slice none 0 0) (.slice none 0 0) j 0 0 x) (by kernel_rfl) (by kernel_rfl) (hx.out.step (Below.refl _ _).drew) ?_
        repeat (first
          | go_big_quiet_skip
          | (go_big_quiet_want; first
            | (go_big_quiet_op; go_big_quiet_on)
            | (unfold Oper.quiet; apply Exists.intro; refine ⟨fun x hx => ?_, ?_⟩; (obtain ⟨c0, c1, c2, c3, c4, c5, c6⟩ := hK.out x hx; unfold Oper.quietAt; first
                | (go_simp; exact ⟨rfl, rfl⟩)
                | (go_simp; exact rfl)
                | (go_simp; done)
                | (go_simp; go_at_call 60; refine (hFr.out x hx).mono ?_; rintro e w' ⟨rfl, hb'⟩; exact ⟨rfl, hx.step hb'⟩)
                | fail); go_simp; go_big_quiet_on)))
        refine wpQuiet_nil ?_
        rintro w6 hx6
        have hx6' := Lib.hid hx6
        clear hx6 hx k0 k1 k2 k3 k4 k5
        obtain ⟨k0, k1, k2, k3, k4, k5, k6⟩ := hK.out w6 hx6'.out
        have hxA := Lib.hid (hx6'.out.step (((Below.refl w6.heap.size w6).alloc (Nat.le_refl _) (.cells #[.string (g.S j)] 9)).drew))
        have kX : (w6.alloc (.cells #[.string (g.S j)] 9)).cell? ⟨w.heap.size + 1, 0, none⟩ = some a := (World.cell?_alloc_lt _ _ _ hx6'.out.big).trans k0
        have hcA : Hid (∀ r u, (strC g.S j)[r]? = some u → (w6.alloc (.cells #[.string (g.S j)] 9)).drew.cell? ⟨w6.heap.size, r, none⟩ = some u) := fun r u hu => by
          cases r with
          | zero => simp [strC] at hu; subst hu; simp
          | succ r => simp [strC] at hu
        have h1A : Hid (∀ u ∈ strC g.S j, u.oneCell' = true) := fun u hu => by simp [strC] at hu; subst hu; rfl
        have hbA : Hid (w.heap.size + 2 ≤ (w6.alloc (.cells #[.string (g.S j)] 9)).drew.heap.size) := by have := hx6'.out.big; show _ ≤ (w6.alloc _).heap.size; simp; omega
        have hjm : j ≤ 1000000 := by omega
        obtain ⟨i0, hi, hz0, hz1, hz2⟩ := info_parts info_str
        have hi' := Lib.hid hi
        have hz0' := Lib.hid hz0
        have hz1' := Lib.hid hz1
        have hz2' := Lib.hid hz2
        clear hK hFr hi hz0 hz1 hz2
        go_wp2_with fail
        go_region_law (refine step_appRow rfl (.tmp 40) (.tmp 46) 22 9 rfl i0 _ 16 1 Tryz.underlying22 hi'.out hz0'.out hz1'.out hz2'.out rfl (by decide) (w.heap.size + 2) a j (strC g.S) rfl hxA.out.s w6.heap.size 1 rfl (by simp) (fun _ => rfl) hcA.out h1A.out hjm (by decide) hbA.out ?_; intro v' w7 hown7 hb7 hg7; obtain ⟨g7, c7, rfl, -, -⟩ := World.ownsRow.form hown7 (Nat.succ_pos _); have hx7 := Lib.hid (hxA.out.moreS hown7 hb7 hg7); have u0 := (hxA.out.bx.cells.under4 hb7 chK_lt).1.1; have f0 := (hxA.out.fz.step hb7 (Nat.lt_succ_self _)).1; clear hown7 hb7 hg7)
        all_goals go_wp2_with fail
        all_goals go_roundw
        all_goals (first
          | exact ⟨j + 1, by omega, by go_num, fun k hk => by
              by_cases e : k = j
              · subst e; exact hok'.out
              · exact hall.out k (by omega), _, hx7.out⟩
          | (simp [intOf]; omega)
          | skip)
    · have i1 : decide ((j : Int) < (g.ns : Int)) = false := decide_eq_false (by omega)
      obtain ⟨aA, aC, rfl, -, -⟩ := (hSg.out _ _ _ _ _ _ wr hx.out hj (Nat.zero_le _) (Nat.zero_le _)).1
      have hje : j = g.ns := by omega
      subst hje
      have hallS := hall
      clear hall
      clear hlt hj
      go_wp2_with fail
      clear k0 k1 k2 k3 k4 k5
      have hxo := Lib.hid (⟨_, hx.out⟩ : ∃ b, Sofar w (.slice A g.ns sc) (.slice FA g.nf fc) (.slice MA g.nm mc) g V (.slice aA g.ns aC) b (.slice none 0 0) g.ns 0 0 wr)
      clear hx
      rename_i _
      revert hxo
      generalize wr = wq
      intro hxo
      go_loopw [5] (fun i wr => ∃ j : Nat, j ≤ g.nf ∧ i = .int .i64 j ∧ Hid (∀ k, k < j → okFn g k = true) ∧ Hid (∃ b, Sofar w (.slice A g.ns sc) (.slice FA g.nf fc) (.slice MA g.nm mc) g V (.slice aA g.ns aC) b (.slice none 0 0) g.ns j 0 wr)) (fun i _ => g.nf - (intOf i).toNat)
      case atStart => exact ⟨0, Nat.zero_le _, rfl, fun k hk => absurd hk (Nat.not_lt_zero _), hxo.out⟩
      case round =>
        clear hxo
        obtain ⟨j, hj, rfl, hall, hex⟩ := hrel
        obtain ⟨b, ha⟩ := hex.out
        have hx := Lib.hid ha
        clear ha hex
        obtain ⟨k0, k1, k2, k3, k4, k5⟩ := hx.out.cells
        by_cases hlt : j < g.nf
        · have i1 : decide ((j : Int) < (g.nf : Int)) = true := decide_eq_true (by omega)
          obtain ⟨bA, bC, rfl, -, -⟩ := (hSg.out _ _ _ _ _ _ wr hx.out (Nat.le_refl _) hj (Nat.zero_le _)).2.1
          obtain ⟨sb, so, cc, e, hsb, hst⟩ := hF1.out j hlt
          injection e with e1 _ e3
          subst e1; subst e3
          have hK := Lib.hid fun (x : World) (h : Sofar w (.slice A g.ns sc) (.slice (some ⟨sb, so, none⟩) g.nf fc) (.slice MA g.nm mc) g V (.slice aA g.ns aC) (.slice bA j bC) (.slice none 0 0) g.ns j 0 x) => (⟨h.cells.1, h.cells.2.1, h.cells.2.2.1, h.cells.2.2.2.1, h.cells.2.2.2.2.1, h.cells.2.2.2.2.2, hst.1.keep fun o => h.bx.bel.cell (p := ⟨sb, o, none⟩) hsb⟩ : _ ∧ _ ∧ _ ∧ _ ∧ _ ∧ _ ∧ FnLies x sb (so + j * 6) (g.F j))
          have hFr := Lib.hid fun (x : World) (h : Sofar w (.slice A g.ns sc) (.slice (some ⟨sb, so, none⟩) g.nf fc) (.slice MA g.nm mc) g V (.slice aA g.ns aC) (.slice bA j bC) (.slice none 0 0) g.ns j 0 x) => RFree_any (.slice aA g.ns aC) (.slice bA j bC) (.slice none 0 0) (g.pre g.ns j 0) (g.F j).name false x (hSg.out _ _ _ _ _ _ x h (Nat.le_refl _) hj (Nat.zero_le _)) hst.2.name
          have hCk := Lib.hid fun (x : World) (h : Sofar w (.slice A g.ns sc) (.slice (some ⟨sb, so, none⟩) g.nf fc) (.slice MA g.nm mc) g V (.slice aA g.ns aC) (.slice bA j bC) (.slice none 0 0) g.ns j 0 x) => RFn_any aA bA none g.ns aC j bC 0 0 g.S (g.F j) x (hSg.out _ _ _ _ _ _ x h (Nat.le_refl _) hj (Nat.zero_le _)).1 hst.2
          unfold fnV at hCk
          unfold FnLies at hK
          have hq := hoF.out j
          clear hst
          generalize freeR (g.pre g.ns j 0) (g.F j).name false = r at *
          generalize hcb : funB g.ns (g.F j) = q at *
          have hj0 : (0 : Int) ≤ (j : Int) := by omega
          have hjn : (j : Int) < (g.nf : Int) := by omega
          have hjd : decide (g.nf ≤ j) = false := decide_eq_false (by omega)
          clear hcb
          cases hr : (r != 0) with
          | true =>
            have hF := Lib.hid (hnoF.out j hlt (by rw [hr] at hq; simpa using hq))
            clear hq
            go_upto_region 13 with fail
            refine region_cls (fun x => Sofar w (.slice A g.ns sc) (.slice (some ⟨sb, so, none⟩) g.nf fc) (.slice MA g.nm mc) g V (.slice aA g.ns aC) (.slice bA j bC) (.slice none 0 0) g.ns j 0 x) (by kernel_rfl) (by kernel_rfl) (hx.out.step (Below.refl _ _).drew) ?_
            repeat (first
              | go_big_quiet_skip
              | (go_big_quiet_want; first
                | (go_big_quiet_op; go_big_quiet_on)
                | (unfold Oper.quiet; apply Exists.intro; refine ⟨fun x hx => ?_, ?_⟩; (obtain ⟨k0, k1, k2, k3, k4, k5, p0, p1, p2, p3, p4, p5⟩ := hK.out x hx; unfold Oper.quietAt; first
                    | (go_simp; exact ⟨rfl, rfl⟩)
                    | (go_simp; exact rfl)
                    | (go_simp; done)
                    | (go_simp; go_at_call 60; refine (hFr.out x hx).mono ?_; rintro e w' ⟨rfl, hb'⟩; exact ⟨rfl, hx.step hb'⟩)
                    | (go_simp; go_at_call 61; refine (hCk.out x hx).mono ?_; rintro e w' ⟨rfl, hb'⟩; exact ⟨rfl, hx.step hb'⟩)
                    | fail); go_simp; go_big_quiet_on)))
            refine wpQuiet_nil ?_
            rintro w6 hx6
            have hb6 := Lib.hid hx6.bx.bel
            clear hx6
            go_wp2_with fail
            go_ret
            exact ⟨by rw [hF.out]; rfl, hb6.out⟩
          | false =>
          rw [hr, Bool.false_or] at hq
          cases q with
          | false =>
            have hF := Lib.hid (hnoF.out j hlt (by simpa using hq))
            clear hq
            go_upto_region 13 with fail
            refine region_cls (fun x => Sofar w (.slice A g.ns sc) (.slice (some ⟨sb, so, none⟩) g.nf fc) (.slice MA g.nm mc) g V (.slice aA g.ns aC) (.slice bA j bC) (.slice none 0 0) g.ns j 0 x) (by kernel_rfl) (by kernel_rfl) (hx.out.step (Below.refl _ _).drew) ?_
            repeat (first
              | go_big_quiet_skip
              | (go_big_quiet_want; first
                | (go_big_quiet_op; go_big_quiet_on)
                | (unfold Oper.quiet; apply Exists.intro; refine ⟨fun x hx => ?_, ?_⟩; (obtain ⟨k0, k1, k2, k3, k4, k5, p0, p1, p2, p3, p4, p5⟩ := hK.out x hx; unfold Oper.quietAt; first
                    | (go_simp; exact ⟨rfl, rfl⟩)
                    | (go_simp; exact rfl)
                    | (go_simp; done)
                    | (go_simp; go_at_call 60; refine (hFr.out x hx).mono ?_; rintro e w' ⟨rfl, hb'⟩; exact ⟨rfl, hx.step hb'⟩)
                    | (go_simp; go_at_call 61; refine (hCk.out x hx).mono ?_; rintro e w' ⟨rfl, hb'⟩; exact ⟨rfl, hx.step hb'⟩)
                    | fail); go_simp; go_big_quiet_on)))
            refine wpQuiet_nil ?_
            rintro w6 hx6
            have hb6 := Lib.hid hx6.bx.bel
            clear hx6
            go_wp2_with fail
            go_ret
            exact ⟨by rw [hF.out]; rfl, hb6.out⟩
          | true =>
            have hok' := Lib.hid (show okFn g j = true by simpa using hq)
            clear hq
            go_upto_region 13 with fail
            refine region_cls (fun x => Sofar w (.slice A g.ns sc) (.slice (some ⟨sb, so, none⟩) g.nf fc) (.slice MA g.nm mc) g V (.slice aA g.ns aC) (.slice bA j bC) (.slice none 0 0) g.ns j 0 x) (by kernel_rfl) (by kernel_rfl) (hx.out.step (Below.refl _ _).drew) ?_
            repeat (first
              | go_big_quiet_skip
              | (go_big_quiet_want; first
                | (go_big_quiet_op; go_big_quiet_on)
                | (unfold Oper.quiet; apply Exists.intro; refine ⟨fun x hx => ?_, ?_⟩; (obtain ⟨k0, k1, k2, k3, k4, k5, p0, p1, p2, p3, p4, p5⟩ := hK.out x hx; unfold Oper.quietAt; first
                    | (go_simp; exact ⟨rfl, rfl⟩)
                    | (go_simp; exact rfl)
                    | (go_simp; done)
                    | (go_simp; go_at_call 60; refine (hFr.out x hx).mono ?_; rintro e w' ⟨rfl, hb'⟩; exact ⟨rfl, hx.step hb'⟩)
                    | (go_simp; go_at_call 61; refine (hCk.out x hx).mono ?_; rintro e w' ⟨rfl, hb'⟩; exact ⟨rfl, hx.step hb'⟩)
                    | fail); go_simp; go_big_quiet_on)))
            refine wpQuiet_nil ?_
            rintro w6 hx6
            have hx6' := Lib.hid hx6
            clear hx6 hx k0 k1 k2 k3 k4 k5
            obtain ⟨k0, k1, k2, k3, k4, k5, p0, p1, p2, p3, p4, p5⟩ := hK.out w6 hx6'.out
            have hxA := Lib.hid (hx6'.out.step (((Below.refl w6.heap.size w6).alloc (Nat.le_refl _) (.cells #[.string (g.F j).name, .int .i64 (g.F j).len, .int .i64 (g.F j).a0, .int .i64 (g.F j).a1, .int .i64 (g.F j).a2, .int .i64 (g.F j).res] 81)).drew))
            have kX : (w6.alloc (.cells #[.string (g.F j).name, .int .i64 (g.F j).len, .int .i64 (g.F j).a0, .int .i64 (g.F j).a1, .int .i64 (g.F j).a2, .int .i64 (g.F j).res] 81)).cell? ⟨w.heap.size + 1, 1, none⟩ = some (.slice bA j bC) := (World.cell?_alloc_lt _ _ _ hx6'.out.big).trans k1
            have hcA : Hid (∀ r u, (fnCs4 g.F j)[r]? = some u → (w6.alloc (.cells #[.string (g.F j).name, .int .i64 (g.F j).len, .int .i64 (g.F j).a0, .int .i64 (g.F j).a1, .int .i64 (g.F j).a2, .int .i64 (g.F j).res] 81)).drew.cell? ⟨w6.heap.size, r, none⟩ = some u) := fun r u hu => lit_cells w6 81 [.string (g.F j).name, .int .i64 (g.F j).len, .int .i64 (g.F j).a0, .int .i64 (g.F j).a1, .int .i64 (g.F j).a2, .int .i64 (g.F j).res] r u (by  exact hu)
            have h1A : Hid (∀ u ∈ fnCs4 g.F j, u.oneCell' = true) := fun u hu => by simp only [fnCs4, fnC] at hu; simp at hu; rcases hu with rfl | rfl | rfl | rfl | rfl | rfl <;> rfl
            have hbA : Hid (w.heap.size + 2 ≤ (w6.alloc (.cells #[.string (g.F j).name, .int .i64 (g.F j).len, .int .i64 (g.F j).a0, .int .i64 (g.F j).a1, .int .i64 (g.F j).a2, .int .i64 (g.F j).res] 81)).drew.heap.size) := by have := hx6'.out.big; show _ ≤ (w6.alloc _).heap.size; simp; omega
            have hjm : j ≤ 1000000 := by omega
            have hsx : Hid (∀ i, (fnCs4 g.F i).length = 6) := fun _ => rfl
            obtain ⟨i0, hi, hz0, hz1, hz2⟩ := info_parts info_fun4
            have hi' := Lib.hid hi
            have hz0' := Lib.hid hz0
            have hz1' := Lib.hid hz1
            have hz2' := Lib.hid hz2
            clear hK hFr hCk hi hz0 hz1 hz2
            go_wp2_with fail
            go_region_law (refine step_appRow rfl (.tmp 76) (.tmp 82) 23 81 rfl i0 _ 56 6 Tryz.underlying23 hi'.out hz0'.out hz1'.out hz2'.out rfl (by decide) (w.heap.size + 2) (.slice bA j bC) j (fnCs4 g.F) rfl hxA.out.f w6.heap.size 1 rfl (by simp) hsx.out hcA.out h1A.out hjm (by decide) hbA.out ?_; intro v' w7 hown7 hb7 hg7; obtain ⟨g7, c7, rfl, -, -⟩ := World.ownsRow.form hown7 (Nat.succ_pos _); have hx7 := Lib.hid (hxA.out.moreF hown7 hb7 hg7); have u0 := (hxA.out.bx.cells.under4 hb7 chK_lt).2.1.1; have f0 := (hxA.out.fz.step hb7 (Nat.lt_succ_self _)).2.1; clear hown7 hb7 hg7)
            all_goals go_wp2_with fail
            all_goals go_roundw
            all_goals (first
              | exact ⟨j + 1, by omega, by go_num, fun k hk => by
                  by_cases e : k = j
                  · subst e; exact hok'.out
                  · exact hall.out k (by omega), _, hx7.out⟩
              | (simp [intOf]; omega)
              | skip)
        · have i1 : decide ((j : Int) < (g.nf : Int)) = false := decide_eq_false (by omega)
          obtain ⟨bA, bC, rfl, -, -⟩ := (hSg.out _ _ _ _ _ _ wr hx.out (Nat.le_refl _) hj (Nat.zero_le _)).2.1
          have hje : j = g.nf := by omega
          subst hje
          have hallF := hall
          clear hall
          clear hlt hj
          go_wp2_with fail
          clear k0 k1 k2 k3 k4 k5
          have hxo := Lib.hid (⟨_, hx.out⟩ : ∃ c, Sofar w (.slice A g.ns sc) (.slice FA g.nf fc) (.slice MA g.nm mc) g V (.slice aA g.ns aC) (.slice bA g.nf bC) c g.ns g.nf 0 wr)
          clear hx
          rename_i _
          revert hxo
          generalize wr = wq
          intro hxo
          go_loopw [6] (fun i wr => ∃ j : Nat, j ≤ g.nm ∧ i = .int .i64 j ∧ Hid (∀ k, k < j → okMn g k = true) ∧ Hid (∃ c, Sofar w (.slice A g.ns sc) (.slice FA g.nf fc) (.slice MA g.nm mc) g V (.slice aA g.ns aC) (.slice bA g.nf bC) c g.ns g.nf j wr)) (fun i _ => g.nm - (intOf i).toNat)
          case atStart => exact ⟨0, Nat.zero_le _, rfl, fun k hk => absurd hk (Nat.not_lt_zero _), hxo.out⟩
          case round =>
            clear hxo
            obtain ⟨j, hj, rfl, hall, hex⟩ := hrel
            obtain ⟨c, ha⟩ := hex.out
            have hx := Lib.hid ha
            clear ha hex
            obtain ⟨k0, k1, k2, k3, k4, k5⟩ := hx.out.cells
            by_cases hlt : j < g.nm
            · have i1 : decide ((j : Int) < (g.nm : Int)) = true := decide_eq_true (by omega)
              obtain ⟨cA, cC, rfl, -, -⟩ := (hSg.out _ _ _ _ _ _ wr hx.out (Nat.le_refl _) (Nat.le_refl _) hj).2.2
              obtain ⟨sb, so, cc, e, hsb, hst⟩ := hVc'.out j hlt
              injection e with e1 _ e3
              subst e1; subst e3
              obtain ⟨v0, v1, v2, v3, v4, v5, hVj, hmi⟩ := hV'.out.2 j hlt
              have hmi' := Lib.hid hmi
              obtain ⟨rfl, hnm, hP, rfl, hres, hB⟩ := hmi
              obtain ⟨kk, tt, AA, nn, cc, rfl, rfl, rfl⟩ := hB.forms
              obtain ⟨PA, pc, rfl, -, -⟩ := hP
              rw [hVj] at hst
              have hK := Lib.hid fun (x : World) (h : Sofar w (.slice A g.ns sc) (.slice FA g.nf fc) (.slice (some ⟨sb, so, none⟩) g.nm mc) g V (.slice aA g.ns aC) (.slice bA g.nf bC) (.slice cA j cC) g.ns g.nf j x) => (⟨h.cells.1, h.cells.2.1, h.cells.2.2.1, h.cells.2.2.2.1, h.cells.2.2.2.2.1, h.cells.2.2.2.2.2, (h.bx.bel.cell (p := ⟨sb, so + j * 6, none⟩) hsb).trans (hst 0 _ rfl), (h.bx.bel.cell (p := ⟨sb, so + j * 6 + 1, none⟩) hsb).trans (hst 1 _ rfl), (h.bx.bel.cell (p := ⟨sb, so + j * 6 + 2, none⟩) hsb).trans (hst 2 _ rfl), (h.bx.bel.cell (p := ⟨sb, so + j * 6 + 3, none⟩) hsb).trans (hst 3 _ rfl), (h.bx.bel.cell (p := ⟨sb, so + j * 6 + 4, none⟩) hsb).trans (hst 4 _ rfl), (h.bx.bel.cell (p := ⟨sb, so + j * 6 + 5, none⟩) hsb).trans (hst 5 _ rfl)⟩ : _ ∧ _ ∧ _ ∧ _ ∧ _ ∧ _ ∧ _ ∧ _ ∧ _ ∧ _ ∧ _ ∧ _)
              have hFr := Lib.hid fun (x : World) (h : Sofar w (.slice A g.ns sc) (.slice FA g.nf fc) (.slice (some ⟨sb, so, none⟩) g.nm mc) g V (.slice aA g.ns aC) (.slice bA g.nf bC) (.slice cA j cC) g.ns g.nf j x) => RFree_any (.slice aA g.ns aC) (.slice bA g.nf bC) (.slice cA j cC) (g.pre g.ns g.nf j) (g.M j).name false x (hSg.out _ _ _ _ _ _ x h (Nat.le_refl _) (Nat.le_refl _) hj) hnm
              have hCk := Lib.hid fun (x : World) (h : Sofar w (.slice A g.ns sc) (.slice FA g.nf fc) (.slice (some ⟨sb, so, none⟩) g.nm mc) g V (.slice aA g.ns aC) (.slice bA g.nf bC) (.slice cA j cC) g.ns g.nf j x) => RMac_any aA bA cA g.ns aC g.nf bC j cC g.S (g.M j) _ _ _ _ _ _ x (hSg.out _ _ _ _ _ _ x h (Nat.le_refl _) (Nat.le_refl _) hj).1 (hmi'.out.below h.bx.bel)
              have hq := hoM.out j
              have hVj' := Lib.hid hVj
              clear hst hVj hres hB hnm
              generalize freeR (g.pre g.ns g.nf j) (g.M j).name false = r at *
              generalize hcb : macB g.ns (g.M j) = q at *
              have hj0 : (0 : Int) ≤ (j : Int) := by omega
              have hjn : (j : Int) < (g.nm : Int) := by omega
              have hjd : decide (g.nm ≤ j) = false := decide_eq_false (by omega)
              clear hcb
              cases hr : (r != 0) with
              | true =>
                have hF := Lib.hid (hnoM.out j hlt (by rw [hr] at hq; simpa using hq))
                clear hq
                go_upto_region 19 with fail
                refine region_cls (fun x => Sofar w (.slice A g.ns sc) (.slice FA g.nf fc) (.slice (some ⟨sb, so, none⟩) g.nm mc) g V (.slice aA g.ns aC) (.slice bA g.nf bC) (.slice cA j cC) g.ns g.nf j x) (by kernel_rfl) (by kernel_rfl) (hx.out.step (Below.refl _ _).drew) ?_
                repeat (first
                  | go_big_quiet_skip
                  | (go_big_quiet_want; first
                    | (go_big_quiet_op; go_big_quiet_on)
                    | (unfold Oper.quiet; apply Exists.intro; refine ⟨fun x hx => ?_, ?_⟩; (obtain ⟨k0, k1, k2, k3, k4, k5, p0, p1, p2, p3, p4, p5⟩ := hK.out x hx; unfold Oper.quietAt; first
                        | (go_simp; exact ⟨rfl, rfl⟩)
                        | (go_simp; exact rfl)
                        | (go_simp; done)
                        | (go_simp; go_at_call 60; refine (hFr.out x hx).mono ?_; rintro e w' ⟨rfl, hb'⟩; exact ⟨rfl, hx.step hb'⟩)
                        | (go_simp; go_at_call 62; refine (hCk.out x hx).mono ?_; rintro e w' ⟨rfl, hb'⟩; exact ⟨rfl, hx.step hb'⟩)
                        | fail); go_simp; go_big_quiet_on)))
                refine wpQuiet_nil ?_
                rintro w6 hx6
                have hb6 := Lib.hid hx6.bx.bel
                clear hx6
                go_wp2_with fail
                go_ret
                exact ⟨by rw [hF.out]; rfl, hb6.out⟩
              | false =>
              rw [hr, Bool.false_or] at hq
              cases q with
              | false =>
                have hF := Lib.hid (hnoM.out j hlt (by simpa using hq))
                clear hq
                go_upto_region 19 with fail
                refine region_cls (fun x => Sofar w (.slice A g.ns sc) (.slice FA g.nf fc) (.slice (some ⟨sb, so, none⟩) g.nm mc) g V (.slice aA g.ns aC) (.slice bA g.nf bC) (.slice cA j cC) g.ns g.nf j x) (by kernel_rfl) (by kernel_rfl) (hx.out.step (Below.refl _ _).drew) ?_
                repeat (first
                  | go_big_quiet_skip
                  | (go_big_quiet_want; first
                    | (go_big_quiet_op; go_big_quiet_on)
                    | (unfold Oper.quiet; apply Exists.intro; refine ⟨fun x hx => ?_, ?_⟩; (obtain ⟨k0, k1, k2, k3, k4, k5, p0, p1, p2, p3, p4, p5⟩ := hK.out x hx; unfold Oper.quietAt; first
                        | (go_simp; exact ⟨rfl, rfl⟩)
                        | (go_simp; exact rfl)
                        | (go_simp; done)
                        | (go_simp; go_at_call 60; refine (hFr.out x hx).mono ?_; rintro e w' ⟨rfl, hb'⟩; exact ⟨rfl, hx.step hb'⟩)
                        | (go_simp; go_at_call 62; refine (hCk.out x hx).mono ?_; rintro e w' ⟨rfl, hb'⟩; exact ⟨rfl, hx.step hb'⟩)
                        | fail); go_simp; go_big_quiet_on)))
                refine wpQuiet_nil ?_
                rintro w6 hx6
                have hb6 := Lib.hid hx6.bx.bel
                clear hx6
                go_wp2_with fail
                go_ret
                exact ⟨by rw [hF.out]; rfl, hb6.out⟩
              | true =>
                have hok' := Lib.hid (show okMn g j = true by simpa using hq)
                clear hq
                go_upto_region 19 with fail
                refine region_cls (fun x => Sofar w (.slice A g.ns sc) (.slice FA g.nf fc) (.slice (some ⟨sb, so, none⟩) g.nm mc) g V (.slice aA g.ns aC) (.slice bA g.nf bC) (.slice cA j cC) g.ns g.nf j x) (by kernel_rfl) (by kernel_rfl) (hx.out.step (Below.refl _ _).drew) ?_
                repeat (first
                  | go_big_quiet_skip
                  | (go_big_quiet_want; first
                    | (go_big_quiet_op; go_big_quiet_on)
                    | (unfold Oper.quiet; apply Exists.intro; refine ⟨fun x hx => ?_, ?_⟩; (obtain ⟨k0, k1, k2, k3, k4, k5, p0, p1, p2, p3, p4, p5⟩ := hK.out x hx; unfold Oper.quietAt; first
                        | (go_simp; exact ⟨rfl, rfl⟩)
                        | (go_simp; exact rfl)
                        | (go_simp; done)
                        | (go_simp; go_at_call 60; refine (hFr.out x hx).mono ?_; rintro e w' ⟨rfl, hb'⟩; exact ⟨rfl, hx.step hb'⟩)
                        | (go_simp; go_at_call 62; refine (hCk.out x hx).mono ?_; rintro e w' ⟨rfl, hb'⟩; exact ⟨rfl, hx.step hb'⟩)
                        | fail); go_simp; go_big_quiet_on)))
                refine wpQuiet_nil ?_
                rintro w6 hx6
                have hx6' := Lib.hid hx6
                clear hx6 hx k0 k1 k2 k3 k4 k5
                obtain ⟨k0, k1, k2, k3, k4, k5, p0, p1, p2, p3, p4, p5⟩ := hK.out w6 hx6'.out
                have hxA := Lib.hid (hx6'.out.step (((Below.refl w6.heap.size w6).alloc (Nat.le_refl _) (.cells #[.string (g.M j).name, .slice PA (g.M j).np pc, .int .i64 (g.M j).res, .int .i8 kk, .string tt, .slice AA nn cc] 55)).drew))
                have kX : (w6.alloc (.cells #[.string (g.M j).name, .slice PA (g.M j).np pc, .int .i64 (g.M j).res, .int .i8 kk, .string tt, .slice AA nn cc] 55)).cell? ⟨w.heap.size + 1, 2, none⟩ = some (.slice cA j cC) := (World.cell?_alloc_lt _ _ _ hx6'.out.big).trans k2
                have hcA : Hid (∀ r u, (V j)[r]? = some u → (w6.alloc (.cells #[.string (g.M j).name, .slice PA (g.M j).np pc, .int .i64 (g.M j).res, .int .i8 kk, .string tt, .slice AA nn cc] 55)).drew.cell? ⟨w6.heap.size, r, none⟩ = some u) := fun r u hu => lit_cells w6 55 [.string (g.M j).name, .slice PA (g.M j).np pc, .int .i64 (g.M j).res, .int .i8 kk, .string tt, .slice AA nn cc] r u (by rw [hVj'.out] at hu; exact hu)
                have h1A : Hid (∀ u ∈ V j, u.oneCell' = true) := fun u hu => by rw [hVj'.out] at hu; simp at hu; rcases hu with rfl | rfl | rfl | rfl | rfl | rfl <;> rfl
                have hbA : Hid (w.heap.size + 2 ≤ (w6.alloc (.cells #[.string (g.M j).name, .slice PA (g.M j).np pc, .int .i64 (g.M j).res, .int .i8 kk, .string tt, .slice AA nn cc] 55)).drew.heap.size) := by have := hx6'.out.big; show _ ≤ (w6.alloc _).heap.size; simp; omega
                have hjm : j ≤ 1000000 := by omega
                have hsx : Hid (∀ i, (V i).length = 6) := hV'.out.1
                obtain ⟨i0, hi, hz0, hz1, hz2⟩ := info_parts info_mac4
                have hi' := Lib.hid hi
                have hz0' := Lib.hid hz0
                have hz1' := Lib.hid hz1
                have hz2' := Lib.hid hz2
                clear hK hFr hCk hi hz0 hz1 hz2
                go_wp2_with fail
                go_region_law (refine step_appRow rfl (.tmp 112) (.tmp 118) 24 55 rfl i0 _ 96 6 Tryz.underlying24 hi'.out hz0'.out hz1'.out hz2'.out rfl (by decide) (w.heap.size + 2) (.slice cA j cC) j V rfl hxA.out.m w6.heap.size 1 rfl (by simp) hsx.out hcA.out h1A.out hjm (by decide) hbA.out ?_; intro v' w7 hown7 hb7 hg7; obtain ⟨g7, c7, rfl, -, -⟩ := World.ownsRow.form hown7 (Nat.succ_pos _); have hx7 := Lib.hid (hxA.out.moreM hown7 hb7 hg7); have u0 := (hxA.out.bx.cells.under4 hb7 chK_lt).2.2.1.1; have f0 := (hxA.out.fz.step hb7 (Nat.lt_succ_self _)).2.2; clear hown7 hb7 hg7)
                all_goals go_wp2_with fail
                all_goals go_roundw
                all_goals (first
                  | exact ⟨j + 1, by omega, by go_num, fun k hk => by
                      by_cases e : k = j
                      · subst e; exact hok'.out
                      · exact hall.out k (by omega), _, hx7.out⟩
                  | (simp [intOf]; omega)
                  | skip)
            · have i1 : decide ((j : Int) < (g.nm : Int)) = false := decide_eq_false (by omega)
              have hF := Lib.hid (hyes.out hallS.out hallF.out (fun i hi => hall.out i (by omega)))
              go_wp2_with fail
              go_ret
              exact ⟨by rw [hF.out]; rfl, hx.out.bx.bel⟩
end Go.Proofs.YtecmoahadckomaaGreat
