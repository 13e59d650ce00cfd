/- value.fits. -/
import Derived.Test.YtlhnffmbjejphaaGreatZValB
import Derived.Test.YtlhnffmbjejphaaGreatZIntsToSame10
import Derived.Test.YtlhnffmbjejphaaGreatZSigMToSigA
import Derived.Test.YtlhnffmbjejphaaGreatZNodeArityStands
import Derived.Deep.RegionHeld3
import Derived.BigQuiet
import Derived.Deep.QuietTactic
import Derived.Deep.CutRange
namespace Go.Proofs.YtlhnffmbjejphaaGreat
open Go.RowKit
set_option maxRecDepth 100000

set_option maxHeartbeats 8000000 in
theorem fits_any (A FA MA ZA WA : Option Addr) (ns nf nm nw c fc mc zc wc : Nat) (W : Wd) (f : Fn) (x y z : Int) (bg bw bf of_ : Nat) (w : World)
    (g0 : w.cell? ⟨bg, 0, none⟩ = some (.slice A ns c) ∧ w.cell? ⟨bg, 1, none⟩ = some (.slice FA nf fc) ∧ w.cell? ⟨bg, 2, none⟩ = some (.slice MA nm mc)) (gz : bg < w.heap.size)
    (w0 : w.cell? ⟨bw, 0, none⟩ = some (.slice ZA W.nz zc) ∧ w.cell? ⟨bw, 1, none⟩ = some (.slice WA nw wc)) (wz : bw < w.heap.size)
    (hf : FnLies w bf of_ f) (fz : bf < w.heap.size) (hfR : FnR f) (hZ : IntsAt w (.slice ZA W.nz zc) W.nz W.Z) (hn : W.nz ≤ 1000000) (hx : R64 x) (hy : R64 y) (hz : R64 z) :
    Calls Tryz.prog 49 #[.pointer (some ⟨bg, 0, none⟩), .pointer (some ⟨bw, 0, none⟩), .pointer (some ⟨bf, of_, none⟩), .agg #[.int .i64 x, .int .i64 y, .int .i64 z]] w fun e w' => e = .returned (.bool (fitB ns W f (a3 x y z))) ∧ Below w.heap.size w w' := by
  have hK : ∀ j, j < 3 → ∀ {x : World}, Below w.heap.size w x → (x.cell? ⟨bg, 0, none⟩ = some (.slice A ns c) ∧ x.cell? ⟨bg, 1, none⟩ = some (.slice FA nf fc) ∧ x.cell? ⟨bg, 2, none⟩ = some (.slice MA nm mc) ∧ x.cell? ⟨bw, 0, none⟩ = some (.slice ZA W.nz zc) ∧ x.cell? ⟨bw, 1, none⟩ = some (.slice WA nw wc) ∧ x.cell? ⟨bf, of_ + 1, none⟩ = some (.int .i64 f.len) ∧ x.cell? ⟨bf, of_ + 2 + j, none⟩ = some (.int .i64 (f.arg j))) := fun j hj {x} hb => by
    have k : ∀ b o, b < w.heap.size → x.cell? ⟨b, o, none⟩ = w.cell? ⟨b, o, none⟩ := fun b o h => hb.cell (p := ⟨b, o, none⟩) h
    obtain ⟨g1, g2, g3⟩ := g0
    obtain ⟨w1, w2⟩ := w0
    obtain ⟨f0, f1, f2, f3, f4, f5⟩ := hf
    refine ⟨(k _ _ gz).trans g1, (k _ _ gz).trans g2, (k _ _ gz).trans g3, (k _ _ wz).trans w1, (k _ _ wz).trans w2, (k _ _ fz).trans f1, ?_⟩
    match j, hj with
    | 0, _ => exact (k _ _ fz).trans f2
    | 1, _ => exact (k _ _ fz).trans f3
    | 2, _ => exact (k _ _ fz).trans f4
  have hK' := Lib.hid @hK
  have hIs := Lib.hid fun j (_ : j < 3) (x' : World) (hb : Below w.heap.size w x') (ha : R64 (a3 x y z j)) => VIs_any A FA MA ZA WA ns nf nm W.nz nw c fc mc zc wc W (f.arg j) (a3 x y z j) x' rfl (hZ.below hb) hn (by match j with | 0 => exact hfR.a0 | 1 => exact hfR.a1 | j + 2 => exact hfR.a2) ha
  have hno := Lib.hid fun i (hi : i < 3) h => fit_no (ns := ns) (W := W) (f := f) (a := a3 x y z) (i := i) hi h
  have hyes := Lib.hid fun h => fit_yes (ns := ns) (W := W) (f := f) (a := a3 x y z) h
  have ha3 : Hid (∀ j, R64 (a3 x y z j)) := fun j => by match j with | 0 => exact hx | 1 => exact hy | j + 2 => exact hz
  have hf1 : Hid (∀ i, fitB1 ns W f (a3 x y z) i = if (i : Int) < f.len then isB ns W (f.arg i) (a3 x y z i) else decide (a3 x y z i = 0)) := fun i => rfl
  have hix : ∀ (j : Nat), j < 3 → ∀ X : World, (Instr.index 51 (.agg #[.int .i64 x, .int .i64 y, .int .i64 z]) (.int .i64 j)).run Tryz.prog X = .ok (.int .i64 (a3 x y z j)) X := fun j hj X => by
    match j, hj with
    | 0, _ => exact run_ix0 X x y z
    | 1, _ => exact run_ix1 X x y z
    | 2, _ => exact run_ix2 X x y z
  clear hK g0 w0 hf hfR hZ hx hy hz
  go_enter Tryz.func49, Tryz.ntmps49
  go_wp2_with fail
  go_loopw [9, 10, 12] (fun _ _ i wr => ∃ j : Nat, j ≤ 3 ∧ i = .int .i64 j ∧ Hid (∀ k, k < j → fitB1 ns W f (a3 x y z) k = true) ∧ Below w.heap.size w wr) (fun _ _ i _ => 3 - (intOf i).toNat)
  case atStart => exact ⟨0, by omega, rfl, fun k hk => absurd hk (Nat.not_lt_zero _), (Below.refl _ _).alloc (Nat.le_refl _) _⟩
  case round =>
    obtain ⟨j, hj, rfl, hall, hbe⟩ := hrel
    by_cases hlt : j < 3
    · have i1 : decide ((j : Int) < 3) = true := decide_eq_true (by omega)
      have hixj := hix j hlt
      have hj0 : (0 : Int) ≤ (j : Int) := by omega
      have hj3 : (j : Int) < 3 := by omega
      have hal : Tryz.prog.arrayLen 51 = 3 := by kernel_rfl
      have hbe' := Lib.hid hbe
      have hI := Lib.hid fun X (hb : Below w.heap.size w X) => hIs.out j hlt X hb (ha3.out j)
      have hnj := Lib.hid (hno.out j hlt)
      have hfj := Lib.hid (hf1.out j)
      clear hix hIs hno hf1
      have hb0 : Below w.heap.size w wr.drew := hbe.drew
      generalize hav : a3 x y z j = av at *
      by_cases hl : (j : Int) < f.len
      · have d1 : decide ((j : Int) < f.len) = true := decide_eq_true hl
        have d2 : decide (f.len ≤ (j : Int)) = false := decide_eq_false (by omega)
        have hfj2 : Hid (fitB1 ns W f (a3 x y z) j = isB ns W (f.arg j) av) := by unfold Hid; rw [hfj.out, if_pos hl]
        have hnl : ¬ f.len ≤ (j : Int) := by omega
        clear hfj
        cases hq : isB ns W (f.arg j) av with
        | true =>
          rw [hq] at hI hfj2
          clear hq hav
          go_upto_region 4 with fail
          refine region_cls (fun x => (x.cell? ⟨bg, 0, none⟩ = some (.slice A ns c) ∧ x.cell? ⟨bg, 1, none⟩ = some (.slice FA nf fc) ∧ x.cell? ⟨bg, 2, none⟩ = some (.slice MA nm mc) ∧ x.cell? ⟨bw, 0, none⟩ = some (.slice ZA W.nz zc) ∧ x.cell? ⟨bw, 1, none⟩ = some (.slice WA nw wc) ∧ x.cell? ⟨bf, of_ + 1, none⟩ = some (.int .i64 f.len) ∧ x.cell? ⟨bf, of_ + 2 + j, none⟩ = some (.int .i64 (f.arg j))) ∧ Below w.heap.size w x) (by kernel_rfl) (by kernel_rfl) ⟨hK'.out j hlt hb0, hb0⟩ ?_
          repeat (first
            | go_big_quiet_skip
            | (go_big_quiet_want; first
              | (go_big_quiet_op; go_big_quiet_on)
              | (unfold Oper.quiet; apply Exists.intro; refine ⟨fun x hx => ?_, ?_⟩; (obtain ⟨⟨c0, c1, c2, c3, c4, c5, c6⟩, cb⟩ := hx; unfold Oper.quietAt; first
                  | (go_simp; exact ⟨rfl, rfl⟩)
                  | (go_simp; exact rfl)
                  | (go_simp; done)
                  | (go_simp; go_at_call 48; refine (hI.out x cb).mono ?_; rintro e w' ⟨rfl, hb'⟩; exact ⟨rfl, hK'.out j hlt (cb.trans (hb'.mono cb.size)), cb.trans (hb'.mono cb.size)⟩)
                  | fail); go_simp; go_big_quiet_on)))
          refine wpQuiet_nil ?_
          rintro w8 ⟨hb8a, hb8⟩
          all_goals go_wp2_with fail
          go_roundw
          case rel => exact ⟨j + 1, by omega, by go_num, fun k hk => by
            by_cases e : k = j
            · subst e; exact hfj2.out
            · exact hall.out k (by omega), hb8⟩
          case measure => simp [intOf]; omega
        | false =>
          rw [hq] at hI hfj2
          clear hq hav
          have hF := Lib.hid (hnj.out hfj2.out)
          go_upto_region 4 with fail
          refine region_cls (fun x => (x.cell? ⟨bg, 0, none⟩ = some (.slice A ns c) ∧ x.cell? ⟨bg, 1, none⟩ = some (.slice FA nf fc) ∧ x.cell? ⟨bg, 2, none⟩ = some (.slice MA nm mc) ∧ x.cell? ⟨bw, 0, none⟩ = some (.slice ZA W.nz zc) ∧ x.cell? ⟨bw, 1, none⟩ = some (.slice WA nw wc) ∧ x.cell? ⟨bf, of_ + 1, none⟩ = some (.int .i64 f.len) ∧ x.cell? ⟨bf, of_ + 2 + j, none⟩ = some (.int .i64 (f.arg j))) ∧ Below w.heap.size w x) (by kernel_rfl) (by kernel_rfl) ⟨hK'.out j hlt hb0, hb0⟩ ?_
          repeat (first
            | go_big_quiet_skip
            | (go_big_quiet_want; first
              | (go_big_quiet_op; go_big_quiet_on)
              | (unfold Oper.quiet; apply Exists.intro; refine ⟨fun x hx => ?_, ?_⟩; (obtain ⟨⟨c0, c1, c2, c3, c4, c5, c6⟩, cb⟩ := hx; unfold Oper.quietAt; first
                  | (go_simp; exact ⟨rfl, rfl⟩)
                  | (go_simp; exact rfl)
                  | (go_simp; done)
                  | (go_simp; go_at_call 48; refine (hI.out x cb).mono ?_; rintro e w' ⟨rfl, hb'⟩; exact ⟨rfl, hK'.out j hlt (cb.trans (hb'.mono cb.size)), cb.trans (hb'.mono cb.size)⟩)
                  | fail); go_simp; go_big_quiet_on)))
          refine wpQuiet_nil ?_
          rintro w8 ⟨hb8a, hb8⟩
          all_goals go_wp2_with fail
          all_goals go_ret
          all_goals exact ⟨by rw [hF.out]; rfl, hb8⟩
      · have d1 : decide ((j : Int) < f.len) = false := decide_eq_false hl
        have d2 : decide (f.len ≤ (j : Int)) = true := decide_eq_true (by omega)
        have hfj2 : Hid (fitB1 ns W f (a3 x y z) j = decide (av = 0)) := by unfold Hid; rw [hfj.out, if_neg hl]
        clear hl hfj
        obtain ⟨c1, c2, c3, c4, c5, c6, c7⟩ := hK'.out j hlt hbe
        by_cases ha : av = 0
        · have e1 : (av != 0) = false := by simpa using ha
          have hT : Hid (fitB1 ns W f (a3 x y z) j = true) := by unfold Hid; rw [hfj2.out, decide_eq_true ha]
          clear ha hav
          go_upto_region 4 with fail
          go_quiet (fail)
          go_wp2_with fail
          go_roundw
          case rel => exact ⟨j + 1, by omega, by go_num, fun k hk => by
            by_cases e : k = j
            · subst e; exact hT.out
            · exact hall.out k (by omega), below_drewN hbe'.out _⟩
          case measure => simp [intOf]; omega
        · have e1 : (av != 0) = true := by simpa using ha
          have hF := Lib.hid (hnj.out (by rw [hfj2.out, decide_eq_false ha]))
          clear ha hav
          go_upto_region 4 with fail
          go_quiet (fail)
          go_wp2_with fail
          go_ret
          exact ⟨by rw [hF.out]; rfl, below_drewN hbe'.out _⟩
    · have i1 : decide ((j : Int) < 3) = false := decide_eq_false (by omega)
      have hF := Lib.hid (hyes.out fun i hi => hall.out i (by omega))
      go_wp2_with fail
      go_ret
      exact ⟨by rw [hF.out]; rfl, hbe⟩
end Go.Proofs.YtlhnffmbjejphaaGreat
