/- value.May. -/
import Derived.Test.YtlhnffmbjejphaaGreatZValC
import Derived.Test.YtlhnffmbjejphaaGreatZRwMapVRowsValD
import Derived.Test.YtlhnffmbjejphaaGreatZSigD
namespace Go.Proofs.YtlhnffmbjejphaaGreat
open Go.RowKit
set_option maxRecDepth 100000

set_option maxHeartbeats 8000000 in
theorem VMay_any (sv fv mv zv wv : Value) (g : Sg) (W : Wd) (w : World) (hG : SgAt w sv fv mv g) (hf : FewG g) (hW : WdAt w zv wv W) (hw : FewW W) :
    Calls Tryz.prog 24 #[.agg #[sv, fv, mv], .agg #[zv, wv]] w fun e w' => e = .returned (.bool (mayW g W)) ∧ Below w.heap.size w w' := by
  have hG' := Lib.hid hG
  have hf' := Lib.hid hf
  have hW' := Lib.hid hW
  have hw' := Lib.hid hw
  obtain ⟨A, c, rfl, -, -⟩ := hG.1
  obtain ⟨FA, fc, rfl, ⟨hfn, hfc⟩, -⟩ := hG.2.1
  obtain ⟨MA, mc, rfl, -, -⟩ := hG.2.2
  obtain ⟨ZA, zc, rfl, -, -, -⟩ := hW.1
  obtain ⟨WA, wc, rfl, ⟨hwn, hwc⟩, -⟩ := hW.2
  have hx := Lib.hid (isK_bx w (.slice A g.ns c) (.slice FA g.nf fc) (.slice MA g.nm mc) (.slice ZA W.nz zc) (.slice WA W.nf wc))
  have hC := Lib.hid (SCheck_any _ _ _ g _ (hG'.out.below hx.out.bel) hf'.out)
  have hR : Hid (mayW g W = (checkG g && (decide (W.nz = g.ns) && (decide (W.nf = g.nf) && (upTo W.nz (fun i => sizeB (W.Z i)) && upTo W.nf (fun i => fvB g.ns W (g.F i) (W.F i))))))) := rfl
  clear hG hf hW hw
  obtain ⟨⟨k0, -⟩, ⟨k1, -⟩, ⟨k2, -⟩, ⟨k3, -⟩, ⟨k4, -⟩, -⟩ := hx.out.cells
  go_enter Tryz.func24, Tryz.ntmps24
  cases hk : checkG g with
  | false =>
    have hF : Hid (mayW g W = false) := by unfold Hid; rw [hR.out, hk]; rfl
    rw [hk] at hC
    unfold chV at hC
    go_wp2_with fail
    refine hC.out.mono ?_
    rintro e w1 ⟨rfl, hb1⟩
    have hx1 := Lib.hid (hx.out.step hb1)
    go_wp2_with fail
    go_ret
    exact ⟨by rw [hF.out]; rfl, hx1.out.bel⟩
  | true =>
  rw [hk] at hC
  unfold chV at hC
  have hR1 : Hid (mayW g W = (decide (W.nz = g.ns) && (decide (W.nf = g.nf) && (upTo W.nz (fun i => sizeB (W.Z i)) && upTo W.nf (fun i => fvB g.ns W (g.F i) (W.F i)))))) := by unfold Hid; rw [hR.out, hk]; rfl
  clear hR hk
  go_wp2_with fail
  refine hC.out.mono ?_
  rintro e w1 ⟨rfl, hb1⟩
  have hx1 := Lib.hid (hx.out.step hb1)
  clear hb1 hC hx k0 k1 k2 k3 k4
  obtain ⟨⟨k0, -⟩, ⟨k1, -⟩, ⟨k2, -⟩, ⟨k3, -⟩, ⟨k4, -⟩, -⟩ := hx1.out.cells
  by_cases h1 : W.nz = g.ns
  case neg =>
    have d1 : ((W.nz : Int) != (g.ns : Int)) = true := by simp; omega
    have hF : Hid (mayW g W = false) := by unfold Hid; rw [hR1.out, decide_eq_false h1]; rfl
    clear h1
    go_wp2_with fail
    go_ret
    exact ⟨by rw [hF.out]; rfl, hx1.out.bel⟩
  have d1 : ((W.nz : Int) != (g.ns : Int)) = false := by simp; omega
  have hR2 : Hid (mayW g W = (decide (W.nf = g.nf) && (upTo W.nz (fun i => sizeB (W.Z i)) && upTo W.nf (fun i => fvB g.ns W (g.F i) (W.F i))))) := by unfold Hid; rw [hR1.out, decide_eq_true h1]; rfl
  have h1' := Lib.hid h1
  clear h1 hR1
  by_cases h2 : W.nf = g.nf
  case neg =>
    have d2 : ((W.nf : Int) != (g.nf : Int)) = true := by simp; omega
    have hF : Hid (mayW g W = false) := by unfold Hid; rw [hR2.out, decide_eq_false h2]; rfl
    clear h2
    go_wp2_with fail
    go_ret
    exact ⟨by rw [hF.out]; rfl, hx1.out.bel⟩
  have d2 : ((W.nf : Int) != (g.nf : Int)) = false := by simp; omega
  have hR3 : Hid (mayW g W = (upTo W.nz (fun i => sizeB (W.Z i)) && upTo W.nf (fun i => fvB g.ns W (g.F i) (W.F i)))) := by unfold Hid; rw [hR2.out, decide_eq_true h2]; rfl
  have h2' := Lib.hid h2
  clear h2 hR2
  have hS := Lib.hid (sizes_any _ W.nz W.Z w1 (hW'.out.1.below hx1.out.bel))
  generalize hq : upTo W.nz (fun i => sizeB (W.Z i)) = q at *
  cases q with
  | false =>
    have hF : Hid (mayW g W = false) := hR3.out
    go_wp2_with fail
    refine hS.out.mono ?_
    rintro e w2 ⟨rfl, rfl⟩
    go_wp2_with fail
    go_ret
    exact ⟨by rw [hF.out]; rfl, hx1.out.bel⟩
  | true =>
  have hno : Hid (∀ i, i < W.nf → fvB g.ns W (g.F i) (W.F i) = false → mayW g W = false) := fun i hi h => by rw [hR3.out, upTo_no hi h]; rfl
  have hyes : Hid ((∀ i, i < W.nf → fvB g.ns W (g.F i) (W.F i) = true) → mayW g W = true) := fun h => by rw [hR3.out, upTo_yes h]; rfl
  clear hR3 hq
  go_wp2_with fail
  refine hS.out.mono ?_
  rintro e w2 ⟨rfl, rfl⟩
  clear hS
  go_wp2_with fail
  clear k0 k1 k2 k3 k4 d1 d2
  go_loopw [5, 6, 7, 8, 9, 11, 39] (fun _ _ _ _ _ _ i wr => ∃ j : Nat, j ≤ W.nf ∧ i = .int .i64 j ∧ Hid (∀ k, k < j → fvB g.ns W (g.F k) (W.F k) = true) ∧ Hid (Bx w (isK w (.slice A g.ns c) (.slice FA g.nf fc) (.slice MA g.nm mc) (.slice ZA W.nz zc) (.slice WA W.nf wc)) wr)) (fun _ _ _ _ _ _ i _ => W.nf - (intOf i).toNat)
  case atStart => exact ⟨0, Nat.zero_le _, rfl, fun k hk => absurd hk (Nat.not_lt_zero _), hx1.out⟩
  case round =>
    clear hx1
    obtain ⟨j, hj, rfl, hall, hx⟩ := hrel
    by_cases hlt : j < W.nf
    case neg =>
      have i1 : decide ((j : Int) < (W.nf : Int)) = false := decide_eq_false (by omega)
      have hT : Hid (mayW g W = true) := hyes.out fun i hi => hall.out i (by omega)
      go_wp2_with fail
      go_ret
      exact ⟨by rw [hT.out]; rfl, hx.out.bel⟩
    have i1 : decide ((j : Int) < (W.nf : Int)) = true := decide_eq_true (by omega)
    have hltf : j < g.nf := by have := h2'.out; omega
    obtain ⟨fb, fo, fcc, efv, hfb, hfn⟩ := RowAt.cells_at hG'.out.2.1 hltf
    injection efv with efa _ efc
    obtain ⟨wb, wo, wcc, ewv, hwb, hwn0⟩ := RowAt.cells_at hW'.out.2 hlt
    injection ewv with ewa _ ewc
    subst efa; subst ewa; subst efc; subst ewc
    obtain ⟨v0, v1, ⟨y0, y1⟩, hfvi⟩ := hwn0
    obtain ⟨rA, rc, rfl, ⟨hrn, hrc⟩, -⟩ := hfvi.1
    have hv1 := hfvi.2.1
    subst hv1
    have hels := hfvi.2.2
    have hfl := hfn.1
    have hfR := hfn.2
    have hRows := Lib.hid fun (X : World) (hb : Below w.heap.size w X) => rows_any (W.F j) _ _ wb (wo + j * 2) X ((hb.cell (p := ⟨wb, wo + j * 2, none⟩) hwb).trans y0) (Nat.lt_of_lt_of_le hwb hb.size) (hfvi.below hb) (hw'.out.nr j hlt)
    have hfvi' := Lib.hid hfvi
    have hK := Lib.hid fun (X : World) (hb : Bx w (isK w (.slice A g.ns c) (.slice (some ⟨fb, fo, none⟩) g.nf fc) (.slice MA g.nm mc) (.slice ZA W.nz zc) (.slice (some ⟨wb, wo, none⟩) W.nf wc)) X) => show (X.cell? ⟨w.heap.size, 0, none⟩ = some (.slice A g.ns c) ∧ X.cell? ⟨w.heap.size, 1, none⟩ = some (.slice (some ⟨fb, fo, none⟩) g.nf fc) ∧ X.cell? ⟨w.heap.size, 2, none⟩ = some (.slice MA g.nm mc) ∧ X.cell? ⟨w.heap.size + 1, 0, none⟩ = some (.slice ZA W.nz zc) ∧ X.cell? ⟨w.heap.size + 1, 1, none⟩ = some (.slice (some ⟨wb, wo, none⟩) W.nf wc) ∧
        X.cell? ⟨wb, wo + j * 2, none⟩ = some (.slice rA (W.F j).nr rc) ∧ X.cell? ⟨wb, wo + j * 2 + 1, none⟩ = some (.int .i64 (W.F j).els) ∧ X.cell? ⟨fb, fo + j * 6 + 5, none⟩ = some (.int .i64 (g.F j).res)) by
      obtain ⟨⟨k0, -⟩, ⟨k1, -⟩, ⟨k2, -⟩, ⟨k3, -⟩, ⟨k4, -⟩, -⟩ := hb.cells
      exact ⟨k2, k3, k4, k0, k1, (hb.bel.cell (p := ⟨wb, wo + j * 2, none⟩) hwb).trans y0, (hb.bel.cell (p := ⟨wb, wo + j * 2 + 1, none⟩) hwb).trans y1, (hb.bel.cell (p := ⟨fb, fo + j * 6 + 5, none⟩) hfb).trans hfl.2.2.2.2.2⟩
    have hIs := Lib.hid fun (s v : Int) (hs : R64 s) (hv : R64 v) (X : World) (hb : Below w.heap.size w X) => VIs_any A (some ⟨fb, fo, none⟩) MA ZA (some ⟨wb, wo, none⟩) g.ns g.nf g.nm W.nz W.nf c fc mc zc wc W s v X rfl (hW'.out.1.below hb) hw'.out.nz hs hv
    have hres := Lib.hid hfR.res
    have hels' := Lib.hid hels
    have hnoj := Lib.hid (hno.out j hlt)
    have hnr : (W.F j).nr ≤ 1000000 := hw'.out.nr j hlt
    obtain ⟨k0, k1, k2, k3, k4, k5, k6, k7⟩ := hK.out wr hx.out
    clear y0 y1 hfvi hfl hfR hno hels hfn
    go_wp2_with fail
    go_quiet (fail)
    go_wp2_with fail
    refine (hRows.out _ (below_drewN hx.out.bel _)).mono ?_
    rintro e w3 ⟨bm, rfl, -, -, hb3⟩
    have hx3 := Lib.hid ((hx.out.drewN _).step hb3)
    clear hb3 hx k0 k1 k2 k3 k4 k5 k6 k7
    obtain ⟨k0, k1, k2, k3, k4, k5, k6, k7⟩ := hK.out w3 hx3.out
    by_cases ho : cntR (W.F j).R (W.F j).nr = (W.F j).nr
    case neg =>
      have d1 : decide (cntR (W.F j).R (W.F j).nr = (W.F j).nr) = false := decide_eq_false ho
      have hF : Hid (mayW g W = false) := hnoj.out (fv_once ho)
      clear ho
      go_wp2_with fail
      go_quiet (fail)
      go_wp2_with fail
      go_ret
      exact ⟨by rw [hF.out]; rfl, below_drewN hx3.out.bel _⟩
    have d1 : decide (cntR (W.F j).R (W.F j).nr = (W.F j).nr) = true := decide_eq_true ho
    have ho' := Lib.hid ho
    clear ho
    by_cases hm : (W.F j).nr ≤ 400
    case neg =>
      have d2 : decide (400 < ((W.F j).nr : Int)) = true := decide_eq_true (by omega)
      have hF : Hid (mayW g W = false) := hnoj.out (fv_many hm)
      clear hm
      go_wp2_with fail
      go_quiet (fail)
      go_wp2_with fail
      go_ret
      exact ⟨by rw [hF.out]; rfl, below_drewN hx3.out.bel _⟩
    have d2 : decide (400 < ((W.F j).nr : Int)) = false := decide_eq_false (by omega)
    have hm' := Lib.hid hm
    clear hm
    have hI := Lib.hid (hIs.out _ _ hres.out hels'.out)
    cases hq : isB g.ns W (g.F j).res (W.F j).els with
    | false =>
      rw [hq] at hI
      have hF : Hid (mayW g W = false) := hnoj.out (fv_else hq)
      clear hq
      go_upto_region 10 with fail
      refine region_cls (fun x => Bx w (isK w (.slice A g.ns c) (.slice (some ⟨fb, fo, none⟩) g.nf fc) (.slice MA g.nm mc) (.slice ZA W.nz zc) (.slice (some ⟨wb, wo, none⟩) W.nf wc)) x) (by kernel_rfl) (by kernel_rfl) hx3.out.drew ?_
      repeat (first
        | go_big_quiet_skip
        | (go_big_quiet_want; first
          | (go_big_quiet_op; go_big_quiet_on)
          | (unfold Oper.quiet; apply Exists.intro; refine ⟨fun x hx => ?_, ?_⟩; (obtain ⟨c0, c1, c2, c3, c4, c5, c6, c7⟩ := hK.out x hx; unfold Oper.quietAt; first
              | (go_simp; exact ⟨rfl, rfl⟩)
              | (go_simp; exact rfl)
              | (go_simp; done)
              | (go_simp; go_at_call 48; refine (hI.out x hx.bel).mono ?_; rintro e w' ⟨rfl, hb'⟩; exact ⟨rfl, hx.step hb'⟩)
              | fail); go_simp; go_big_quiet_on)))
      refine wpQuiet_nil ?_
      rintro w4 hx4
      all_goals go_wp2_with fail
      all_goals go_ret
      all_goals exact ⟨by rw [hF.out]; rfl, hx4.bel⟩
    | true =>
    rw [hq] at hI
    have hels1 := Lib.hid hq
    clear hq
    go_upto_region 10 with fail
    refine region_cls (fun x => Bx w (isK w (.slice A g.ns c) (.slice (some ⟨fb, fo, none⟩) g.nf fc) (.slice MA g.nm mc) (.slice ZA W.nz zc) (.slice (some ⟨wb, wo, none⟩) W.nf wc)) x) (by kernel_rfl) (by kernel_rfl) hx3.out.drew ?_
    repeat (first
      | go_big_quiet_skip
      | (go_big_quiet_want; first
        | (go_big_quiet_op; go_big_quiet_on)
        | (unfold Oper.quiet; apply Exists.intro; refine ⟨fun x hx => ?_, ?_⟩; (obtain ⟨c0, c1, c2, c3, c4, c5, c6, c7⟩ := hK.out x hx; unfold Oper.quietAt; first
            | (go_simp; exact ⟨rfl, rfl⟩)
            | (go_simp; exact rfl)
            | (go_simp; done)
            | (go_simp; go_at_call 48; refine (hI.out x hx.bel).mono ?_; rintro e w' ⟨rfl, hb'⟩; exact ⟨rfl, hx.step hb'⟩)
            | fail); go_simp; go_big_quiet_on)))
    refine wpQuiet_nil ?_
    rintro w4 hx4
    have hx4' := Lib.hid hx4
    clear hx4 hx3 k0 k1 k2 k3 k4 k5 k6 k7
    obtain ⟨k0, k1, k2, k3, k4, k5, k6, k7⟩ := hK.out w4 hx4'.out
    have hnok := Lib.hid fun k (hk : k < (W.F j).nr) (h : rowOkB g.ns W (g.F j) (W.F j) k = false) => hnoj.out (fv_row hk h)
    have hyesj := Lib.hid fun h => fv_yes (ns := g.ns) (W := W) (fn := g.F j) ho'.out hm'.out hels1.out h
    all_goals go_wp2_with fail
    clear k0 k1 k2 k3 k4 k5 k6 k7 d1 d2
    go_loopw [11, 84] (fun _ i wr2 => ∃ k : Nat, k ≤ (W.F j).nr ∧ i = .int .i64 k ∧ Hid (∀ r, r < k → rowOkB g.ns W (g.F j) (W.F j) r = true) ∧ Hid (Bx w (isK w (.slice A g.ns c) (.slice (some ⟨fb, fo, none⟩) g.nf fc) (.slice MA g.nm mc) (.slice ZA W.nz zc) (.slice (some ⟨wb, wo, none⟩) W.nf wc)) wr2)) (fun _ i _ => (W.F j).nr - (intOf i).toNat)
    case atStart => exact ⟨0, Nat.zero_le _, rfl, fun k hk => absurd hk (Nat.not_lt_zero _), hx4'.out⟩
    case round =>
      clear hx4'
      obtain ⟨k, hk, rfl, hallk, hx⟩ := hrel
      by_cases hltk : k < (W.F j).nr
      case neg =>
        have i2 : decide ((k : Int) < ((W.F j).nr : Int)) = false := decide_eq_false (by omega)
        have hT : Hid (fvB g.ns W (g.F j) (W.F j) = true) := hyesj.out fun i hi => hallk.out i (by omega)
        go_wp2_with fail
        go_roundw
        case rel => exact ⟨j + 1, by omega, by go_num, fun r hr => by
          by_cases e : r = j
          · subst e; exact hT.out
          · exact hall.out r (by omega), hx.out⟩
        case measure => simp [intOf]; omega
      have i2 : decide ((k : Int) < ((W.F j).nr : Int)) = true := decide_eq_true (by omega)
      obtain ⟨rb, ro, rcc, erv, hrb, hrw⟩ := RowAt.cells_at hfvi'.out.1 hltk
      injection erv with era _ erc
      subst era; subst erc
      obtain ⟨⟨p0, p1, p2, p3⟩, hrR⟩ := RwIn.stays (W.F j).R hrw hrb hx.out.bel
      have hxA := Lib.hid (hx.out.row #[.int .i64 ((W.F j).R k).a0, .int .i64 ((W.F j).R k).a1, .int .i64 ((W.F j).R k).a2, .int .i64 ((W.F j).R k).val] 112)
      have hK2 := Lib.hid fun (X : World) (hb : Bx w (rwK wr.heap.size ((W.F j).R k) ++ isK w (.slice A g.ns c) (.slice (some ⟨fb, fo, none⟩) g.nf fc) (.slice MA g.nm mc) (.slice ZA W.nz zc) (.slice (some ⟨wb, wo, none⟩) W.nf wc)) X) => show (X.cell? ⟨wr.heap.size, 0, none⟩ = some (.int .i64 ((W.F j).R k).a0) ∧ X.cell? ⟨wr.heap.size, 1, none⟩ = some (.int .i64 ((W.F j).R k).a1) ∧ X.cell? ⟨wr.heap.size, 2, none⟩ = some (.int .i64 ((W.F j).R k).a2) ∧ X.cell? ⟨wr.heap.size, 3, none⟩ = some (.int .i64 ((W.F j).R k).val) ∧
          X.cell? ⟨w.heap.size, 0, none⟩ = some (.slice A g.ns c) ∧ X.cell? ⟨w.heap.size, 1, none⟩ = some (.slice (some ⟨fb, fo, none⟩) g.nf fc) ∧ X.cell? ⟨w.heap.size, 2, none⟩ = some (.slice MA g.nm mc) ∧ X.cell? ⟨w.heap.size + 1, 0, none⟩ = some (.slice ZA W.nz zc) ∧ X.cell? ⟨w.heap.size + 1, 1, none⟩ = some (.slice (some ⟨wb, wo, none⟩) W.nf wc) ∧
          X.cell? ⟨wb, wo + j * 2, none⟩ = some (.slice (some ⟨rb, ro, none⟩) (W.F j).nr rc) ∧ X.cell? ⟨wb, wo + j * 2 + 1, none⟩ = some (.int .i64 (W.F j).els) ∧ X.cell? ⟨fb, fo + j * 6 + 5, none⟩ = some (.int .i64 (g.F j).res)) by
        obtain ⟨⟨e0, -⟩, ⟨e1, -⟩, ⟨e2, -⟩, ⟨e3, -⟩, -⟩ := hb.left.cells
        exact ⟨e0, e1, e2, e3, hK.out X hb.right⟩
      have hlies := Lib.hid (RowAt.cells_at hG'.out.2.1 hltf)
      have hFi := Lib.hid fun (X : World) (hb : Bx w (rwK wr.heap.size ((W.F j).R k) ++ isK w (.slice A g.ns c) (.slice (some ⟨fb, fo, none⟩) g.nf fc) (.slice MA g.nm mc) (.slice ZA W.nz zc) (.slice (some ⟨wb, wo, none⟩) W.nf wc)) X) => show Calls Tryz.prog 49 #[.pointer (some ⟨w.heap.size, 0, none⟩), .pointer (some ⟨w.heap.size + 1, 0, none⟩), .pointer (some ⟨fb, fo + j * 6, none⟩), .agg #[.int .i64 ((W.F j).R k).a0, .int .i64 ((W.F j).R k).a1, .int .i64 ((W.F j).R k).a2]] X fun e w' => e = .returned (.bool (fitB g.ns W (g.F j) (a3 ((W.F j).R k).a0 ((W.F j).R k).a1 ((W.F j).R k).a2))) ∧ Below X.heap.size X w' by
        obtain ⟨⟨g0, s0⟩, ⟨g1, s1⟩, ⟨g2, s2⟩, ⟨g3, s3⟩, ⟨g4, s4⟩, -⟩ := hb.right.cells
        obtain ⟨fb', fo', fcc', e, hfb', hfn⟩ := hlies.out
        injection e with e _ _
        injection e with e
        injection e with e1 e2
        subst e1; subst e2
        exact fits_any A (some ⟨fb, fo, none⟩) MA ZA (some ⟨wb, wo, none⟩) g.ns g.nf g.nm W.nf c fc mc zc wc W (g.F j) _ _ _ _ _ _ _ X ⟨g2, g3, g4⟩ s2 ⟨g0, g1⟩ s0 (hfn.1.keep fun j => hb.bel.cell (p := ⟨fb, j, none⟩) hfb') (Nat.lt_of_lt_of_le hfb' hb.bel.size) hfn.2 (hW'.out.1.below hb.bel) hw'.out.nz hrR.a0 hrR.a1 hrR.a2
      have hI2 := Lib.hid (hIs.out _ _ hres.out hrR.val)
      have hrok : Hid (rowOkB g.ns W (g.F j) (W.F j) k = (fitB g.ns W (g.F j) (a3 ((W.F j).R k).a0 ((W.F j).R k).a1 ((W.F j).R k).a2) && isB g.ns W (g.F j).res ((W.F j).R k).val)) := rfl
      have hnokk := Lib.hid (hnok.out k hltk)
      clear hI hrR hlies hres hels' hIs hnok hrw hRows
      generalize hqf : fitB g.ns W (g.F j) (a3 ((W.F j).R k).a0 ((W.F j).R k).a1 ((W.F j).R k).a2) = qf at *
      generalize hqi : isB g.ns W (g.F j).res ((W.F j).R k).val = qi at *
      clear hqf hqi
      obtain ⟨k0, k1, k2, k3, k4, k5, k6, k7⟩ := hK.out wr hx.out
      cases qf with
      | false =>
        have hF : Hid (mayW g W = false) := hnokk.out (by rw [hrok.out]; rfl)
        go_upto_region 15 with fail
        refine region_cls (fun x => Bx w (rwK wr.heap.size ((W.F j).R k) ++ isK w (.slice A g.ns c) (.slice (some ⟨fb, fo, none⟩) g.nf fc) (.slice MA g.nm mc) (.slice ZA W.nz zc) (.slice (some ⟨wb, wo, none⟩) W.nf wc)) x) (by kernel_rfl) (by kernel_rfl) hxA.out.drew ?_
        repeat (first
          | go_big_quiet_skip
          | (go_big_quiet_want; first
            | (go_big_quiet_op; go_big_quiet_on)
            | (unfold Oper.quiet; apply Exists.intro; refine ⟨fun x hx => ?_, ?_⟩; (obtain ⟨c0, c1, c2, c3, c4, c5, c6, c7, c8, c9, c10, c11⟩ := hK2.out x hx; unfold Oper.quietAt; first
                | (go_simp; exact ⟨rfl, rfl⟩)
                | (go_simp; exact rfl)
                | (go_simp; done)
                | (go_simp; go_at_call 49; refine (hFi.out x hx).mono ?_; rintro e w' ⟨rfl, hb'⟩; exact ⟨rfl, hx.step hb'⟩)
                | fail); go_simp; go_big_quiet_on)))
        refine wpQuiet_nil ?_
        rintro w8 hx8
        all_goals go_wp2_with fail
        all_goals go_ret
        all_goals exact ⟨by rw [hF.out]; rfl, hx8.bel⟩
      | true =>
      cases qi with
      | false =>
        have hF : Hid (mayW g W = false) := hnokk.out (by rw [hrok.out]; rfl)
        go_upto_region 15 with fail
        refine region_cls (fun x => Bx w (rwK wr.heap.size ((W.F j).R k) ++ isK w (.slice A g.ns c) (.slice (some ⟨fb, fo, none⟩) g.nf fc) (.slice MA g.nm mc) (.slice ZA W.nz zc) (.slice (some ⟨wb, wo, none⟩) W.nf wc)) x) (by kernel_rfl) (by kernel_rfl) hxA.out.drew ?_
        repeat (first
          | go_big_quiet_skip
          | (go_big_quiet_want; first
            | (go_big_quiet_op; go_big_quiet_on)
            | (unfold Oper.quiet; apply Exists.intro; refine ⟨fun x hx => ?_, ?_⟩; (obtain ⟨c0, c1, c2, c3, c4, c5, c6, c7, c8, c9, c10, c11⟩ := hK2.out x hx; unfold Oper.quietAt; first
                | (go_simp; exact ⟨rfl, rfl⟩)
                | (go_simp; exact rfl)
                | (go_simp; done)
                | (go_simp; go_at_call 49; refine (hFi.out x hx).mono ?_; rintro e w' ⟨rfl, hb'⟩; exact ⟨rfl, hx.step hb'⟩)
                | (go_simp; go_at_call 48; refine (hI2.out x hx.bel).mono ?_; rintro e w' ⟨rfl, hb'⟩; exact ⟨rfl, hx.step hb'⟩)
                | fail); go_simp; go_big_quiet_on)))
        refine wpQuiet_nil ?_
        rintro w8 hx8
        all_goals go_wp2_with fail
        all_goals go_ret
        all_goals exact ⟨by rw [hF.out]; rfl, hx8.bel⟩
      | true =>
        have hT : Hid (rowOkB g.ns W (g.F j) (W.F j) k = true) := by unfold Hid; rw [hrok.out]; rfl
        go_upto_region 15 with fail
        refine region_cls (fun x => Bx w (rwK wr.heap.size ((W.F j).R k) ++ isK w (.slice A g.ns c) (.slice (some ⟨fb, fo, none⟩) g.nf fc) (.slice MA g.nm mc) (.slice ZA W.nz zc) (.slice (some ⟨wb, wo, none⟩) W.nf wc)) x) (by kernel_rfl) (by kernel_rfl) hxA.out.drew ?_
        repeat (first
          | go_big_quiet_skip
          | (go_big_quiet_want; first
            | (go_big_quiet_op; go_big_quiet_on)
            | (unfold Oper.quiet; apply Exists.intro; refine ⟨fun x hx => ?_, ?_⟩; (obtain ⟨c0, c1, c2, c3, c4, c5, c6, c7, c8, c9, c10, c11⟩ := hK2.out x hx; unfold Oper.quietAt; first
                | (go_simp; exact ⟨rfl, rfl⟩)
                | (go_simp; exact rfl)
                | (go_simp; done)
                | (go_simp; go_at_call 49; refine (hFi.out x hx).mono ?_; rintro e w' ⟨rfl, hb'⟩; exact ⟨rfl, hx.step hb'⟩)
                | (go_simp; go_at_call 48; refine (hI2.out x hx.bel).mono ?_; rintro e w' ⟨rfl, hb'⟩; exact ⟨rfl, hx.step hb'⟩)
                | fail); go_simp; go_big_quiet_on)))
        refine wpQuiet_nil ?_
        rintro w8 hx8
        all_goals go_wp2_with fail
        go_roundw
        case rel => exact ⟨k + 1, by omega, by go_num, fun r hr => by
          by_cases e : r = k
          · subst e; exact hT.out
          · exact hallk.out r (by omega), hx8.right⟩
        case measure => simp [intOf]; omega
end Go.Proofs.YtlhnffmbjejphaaGreat
