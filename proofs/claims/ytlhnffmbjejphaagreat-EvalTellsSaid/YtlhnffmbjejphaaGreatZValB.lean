/- value.Is. -/
import Derived.Test.YtlhnffmbjejphaaGreatZValA
import Derived.Test.YtlhnffmbjejphaaGreatZValWRIsGreatW
namespace Go.Proofs.YtlhnffmbjejphaaGreat
open Go.RowKit
set_option maxRecDepth 100000

set_option maxHeartbeats 4000000 in
theorem VIs_any (A FA MA ZA WA : Option Addr) (ns nf nm nz nw c fc mc zc wc : Nat) (W : Wd) (s v : Int) (w : World) (hz : W.nz = nz) (hZ : IntsAt w (.slice ZA nz zc) nz W.Z) (hn : nz ≤ 1000000) (hs : R64 s) (hv : R64 v) :
    Calls Tryz.prog 48 #[.agg #[.slice A ns c, .slice FA nf fc, .slice MA nm mc], .agg #[.slice ZA nz zc, .slice WA nw wc], .int .i64 s, .int .i64 v] w fun e w' => e = .returned (.bool (isB ns W s v)) ∧ Below w.heap.size w w' := by
  subst hz
  have hx := Lib.hid (isK_bx w (.slice A ns c) (.slice FA nf fc) (.slice MA nm mc) (.slice ZA W.nz zc) (.slice WA nw wc))
  have hx0 := hx.out.cells
  have hk := Lib.hid (kinds_any (w.heap.size + 1) _ W.nz W.Z _ hx0.1.1 hx0.1.2 (hZ.below hx.out.bel) hn)
  have hR : Hid (isB ns W s v = if W.nz ≠ ns then false else if s < 0 then false else if (W.nz : Int) + 2 ≤ s then false else if s = 0 then decide (0 ≤ v ∧ v ≤ 1) else if s = 1 then mayB v else decide (0 ≤ v ∧ v < W.Z (s - 2).toNat)) := rfl
  have hv' := Lib.hid hv
  clear hx0 hZ hv
  go_enter Tryz.func48, Tryz.ntmps48
  go_wp2_with fail
  refine hk.out.mono ?_
  rintro e w1 ⟨kv, P, rfl, hK, hb1⟩
  have hx1 := Lib.hid (hx.out.step hb1)
  obtain ⟨⟨g, kc, rfl, hgl, hcell⟩, hsz⟩ := hK
  have hcell' := Lib.hid hcell
  have hsz' := Lib.hid hsz
  obtain ⟨⟨k0, -⟩, ⟨k1, -⟩, ⟨k2, -⟩, ⟨k3, -⟩, ⟨k4, -⟩, -⟩ := hx1.out.cells
  clear hb1 hk hx hcell hsz
  by_cases h1 : W.nz = ns
  · have d1 : ((W.nz : Int) == (ns : Int)) = true := by simp [h1]
    have hR1 : Hid (isB ns W s v = if s < 0 then false else if (W.nz : Int) + 2 ≤ s then false else if s = 0 then decide (0 ≤ v ∧ v ≤ 1) else if s = 1 then mayB v else decide (0 ≤ v ∧ v < W.Z (s - 2).toNat)) := by unfold Hid; rw [hR.out, if_neg (fun h => h h1)]
    clear h1 hR
    by_cases h2 : s < 0
    · have d2 : decide (0 ≤ s) = false := decide_eq_false (by omega)
      have hF : Hid (isB ns W s v = false) := by unfold Hid; rw [hR1.out, if_pos h2]
      clear h2
      go_wp2_with fail
      go_ret
      exact ⟨by rw [hF.out]; rfl, hx1.out.bel⟩
    · have d2 : decide (0 ≤ s) = true := decide_eq_true (by omega)
      obtain ⟨si, rfl⟩ : ∃ si : Nat, s = si := ⟨s.toNat, by omega⟩
      by_cases h3 : (W.nz : Int) + 2 ≤ (si : Int)
      · have d3 : decide ((si : Int) < 2 + (W.nz : Int)) = false := decide_eq_false (by omega)
        have d4 : decide ((si : Int) < ((2 + W.nz : Nat) : Int)) = false := decide_eq_false (by omega)
        have d5 : decide (si < 2 + W.nz) = false := decide_eq_false (by omega)
        have hF : Hid (isB ns W si v = false) := by unfold Hid; rw [hR1.out, if_neg h2, if_pos h3]
        clear h2 h3
        go_wp2_with fail
        go_ret
        exact ⟨by rw [hF.out]; rfl, hx1.out.bel⟩
      · have d3 : decide ((si : Int) < 2 + (W.nz : Int)) = true := decide_eq_true (by omega)
        have d4 : decide ((si : Int) < ((2 + W.nz : Nat) : Int)) = true := decide_eq_true (by omega)
        have d5 : decide (si < 2 + W.nz) = true := decide_eq_true (by omega)
        have hlt : si < 2 + W.nz := by omega
        have hR2 : Hid (isB ns W si v = if si = 0 then decide (0 ≤ v ∧ v ≤ 1) else if si = 1 then mayB v else decide (0 ≤ v ∧ v < W.Z (si - 2))) := by
          unfold Hid
          rw [hR1.out, if_neg h2, if_neg h3]
          by_cases e0 : si = 0
          · rw [if_pos e0, if_pos (by omega)]
          · rw [if_neg e0, if_neg (by omega)]
            by_cases e1 : si = 1
            · rw [if_pos e1, if_pos (by omega)]
            · rw [if_neg e1, if_neg (by omega), show ((si : Int) - 2).toNat = si - 2 by omega]
        have hc := hcell'.out si hlt
        clear h2 h3 hR1
        by_cases e0 : si = 0
        · subst e0
          rw [show kindV P 0 = .func (.func 135) #[] #[] from rfl] at hc
          have hF : Hid (isB ns W ((0 : Nat) : Int) v = decide (0 ≤ v ∧ v ≤ 1)) := by unfold Hid; rw [hR2.out, if_pos rfl]
          have hkk := Lib.hid (kinds1_any v w1)
          clear hR2
          generalize decide (0 ≤ v ∧ v ≤ 1) = q at *
          go_wp2_with fail
          refine hkk.out.mono ?_
          rintro e w2 ⟨rfl, rfl⟩
          go_wp2_with fail
          go_ret
          exact ⟨by rw [hF.out]; rfl, hx1.out.bel⟩
        · by_cases e1 : si = 1
          · subst e1
            rw [show kindV P 1 = .func (.func 40) #[] #[] from rfl] at hc
            have hF : Hid (isB ns W ((1 : Nat) : Int) v = mayB v) := by unfold Hid; rw [hR2.out, if_neg (by omega), if_pos rfl]
            have hkk := Lib.hid (May_any v w1 hv'.out.1 hv'.out.2)
            clear hR2
            generalize mayB v = q at *
            go_wp2_with fail
            refine hkk.out.mono ?_
            rintro e w2 ⟨rfl, rfl⟩
            go_wp2_with fail
            go_ret
            exact ⟨by rw [hF.out]; rfl, hx1.out.bel⟩
          · rw [show kindV P si = .func (.func 136) #[] #[.pointer (some ⟨P (si - 2), 0, none⟩)] by unfold kindV; rw [if_neg e0, if_neg e1]] at hc
            have hF : Hid (isB ns W (si : Int) v = decide (0 ≤ v ∧ v < W.Z (si - 2))) := by unfold Hid; rw [hR2.out, if_neg e0, if_neg e1]
            have hkk := Lib.hid (kinds2_any v _ _ w1 (hsz'.out (si - 2) (by omega)))
            clear hR2
            generalize decide (0 ≤ v ∧ v < W.Z (si - 2)) = q at *
            go_wp2_with fail
            refine hkk.out.mono ?_
            rintro e w2 ⟨rfl, rfl⟩
            go_wp2_with fail
            go_ret
            exact ⟨by rw [hF.out]; rfl, hx1.out.bel⟩
  · have d1 : ((W.nz : Int) == (ns : Int)) = false := by simp; omega
    have hF : Hid (isB ns W s v = false) := by unfold Hid; rw [hR.out, if_pos h1]
    clear h1
    go_wp2_with fail
    go_ret
    exact ⟨by rw [hF.out]; rfl, hx1.out.bel⟩
end Go.Proofs.YtlhnffmbjejphaaGreat
