/- gantrylaw10.EvalSorted. -/
import Derived.Test.YtdcohcjkimgccaaZEvNEvS
import Derived.Test.YtdcohcjkimgccaaZRIsSame10RCut
import Derived.Test.YtdcohcjkimgccaaZEvalNot
import Derived.Test.YtdcohcjkimgccaaZClsW
namespace Go.Proofs.Ytdcohcjkimgccaa
open Go.RowKit
set_option maxRecDepth 1000000

set_option maxHeartbeats 16000000 in
theorem EvalSorted_any (sv fv mv zv wv tv : Value) (g : Sg) (W : Wd) (n : Nat) (N : Nat → Nd) (cut : Int) (w : World) (hG : SgAt w sv fv mv g) (hW : WdAt w zv wv W) (hv : NdsAt w tv n N) (hct : R64 cut) :
    Calls Try.prog 8 #[.agg #[sv, fv, mv], .agg #[zv, wv], .agg #[tv], .int .i64 cut] w fun e w' => e = .returned (.bool true) ∧ Below w.heap.size w w' := by
  have hwk := Lib.hid wakes10_any
  have hx0 := Lib.hid (evK_bx w sv fv mv zv wv tv)
  have hVb := Lib.hid fun (hf : FewG g) (hw : FewW W) (tv' : Value) (m : Nat) (hm : m ≤ 1000000) (x : World) (hb : Below w.heap.size w x) (hM : NdsAt x tv' m N) => Values_any sv fv mv zv wv tv' g W m N x (hG.below hb) hf (hW.below hb) hw hM hm
  have hg1 := Lib.hid fun (x : World) (hb : Below w.heap.size w x) => Great_any sv fv mv g x (hG.below hb)
  have hg2 := Lib.hid fun (x : World) (hb : Below w.heap.size w x) => greatW_any zv wv W x (hW.below hb)
  have hg5 := Lib.hid fun (x : World) (hb : Below w.heap.size w x) => Great5_any tv n N x (hv.below hb)
  have hNb := Lib.hid fun (x : World) (hb : Below w.heap.size w x) => hv.below hb
  have hZb := Lib.hid fun (x : World) (hb : Below w.heap.size w x) => (hW.below hb).1
  obtain ⟨SA, sc, rfl, -, -⟩ := hG.1
  obtain ⟨FA, fc, rfl, -, -⟩ := hG.2.1
  obtain ⟨MA, mc, rfl, -, -⟩ := hG.2.2
  obtain ⟨ZA, zc, rfl, -, -, -⟩ := hW.1
  obtain ⟨WA, wq, rfl, -, -⟩ := hW.2
  obtain ⟨TA, tc, rfl, -, -, hcs⟩ := hv
  have hcs' := Lib.hid hcs
  have hct' := Lib.hid hct
  clear hG hW hcs hct
  go_enter Try.func8, Try.ntmps8
  go_wp2_with fail
  refine (hg1.out _ hx0.out.bel).mono ?_
  rintro e w1 ⟨⟨bb, rfl, hfew⟩, hb1⟩
  have hx1 := Lib.hid (hx0.out.step hb1)
  have hfew' := Lib.hid hfew
  clear hb1 hx0 hfew hg1
  cases bb with
  | true =>
    go_wp2_with (go_at_call 23; (with_reducible refine (hwk.out _).mono ?_); rintro e w2 ⟨rfl, hb2⟩; have hx2 := Lib.hid (hx1.out.step hb2))
    go_ret
    exact ⟨rfl, hx2.out.bel⟩
  | false =>
  have hfw := Lib.hid (hfew'.out rfl)
  obtain ⟨⟨k0, -⟩, ⟨k1, -⟩, ⟨k2, -⟩, ⟨k3, -⟩, ⟨k4, -⟩, ⟨k5, -⟩, -⟩ := hx1.out.cells
  clear hfew'
  go_wp2_with fail
  refine (hg2.out _ hx1.out.bel).mono ?_
  rintro e w2 ⟨rfl, hb2⟩
  have hx2 := Lib.hid (hx1.out.step hb2)
  have hsm := Lib.hid (@great_small W)
  clear hb2 hx1 hg2 k0 k1 k2 k3 k4 k5
  generalize greatWB W = bb at *
  cases bb with
  | true =>
    go_wp2_with (go_at_call 23; (with_reducible refine (hwk.out _).mono ?_); rintro e w3 ⟨rfl, hb3⟩; have hx3 := Lib.hid (hx2.out.step hb3))
    go_ret
    exact ⟨rfl, hx3.out.bel⟩
  | false =>
  have hfW := Lib.hid ((hsm.out rfl).few)
  obtain ⟨⟨k0, -⟩, ⟨k1, -⟩, ⟨k2, -⟩, ⟨k3, -⟩, ⟨k4, -⟩, ⟨k5, -⟩, -⟩ := hx2.out.cells
  clear hsm
  go_wp2_with fail
  refine (hg5.out _ hx2.out.bel).mono ?_
  rintro e w3 ⟨rfl, hb3⟩
  have hx3 := Lib.hid (hx2.out.step hb3)
  clear hb3 hx2 hg5 k0 k1 k2 k3 k4 k5
  by_cases hn3 : 300 < n
  · have d1 : decide (300 < n) = true := decide_eq_true hn3
    clear hn3
    go_wp2_with (go_at_call 23; (with_reducible refine (hwk.out _).mono ?_); rintro e w4 ⟨rfl, hb4⟩; have hx4 := Lib.hid (hx3.out.step hb4))
    go_ret
    exact ⟨rfl, hx4.out.bel⟩
  have d1 : decide (300 < n) = false := decide_eq_false hn3
  have hn : n ≤ 300 := by omega
  clear hn3
  obtain ⟨⟨k0, -⟩, ⟨k1, -⟩, ⟨k2, -⟩, ⟨k3, -⟩, ⟨k4, -⟩, ⟨k5, -⟩, -⟩ := hx3.out.cells
  have hv3 := Lib.hid (hVb.out hfw.out hfW.out _ n (by omega) w3 hx3.out.bel (hNb.out _ hx3.out.bel))
  go_wp2_with fail
  refine hv3.out.mono ?_
  unfold ValsP
  rintro e w4 ⟨⟨vl, vo, rfl, hok, hbad⟩, hb4⟩
  have hx4 := Lib.hid (hx3.out.step hb4)
  clear hb4 hv3 hx3 k0 k1 k2 k3 k4 k5
  have hcs := Lib.hid (valsE_cases g W n N)
  have hEv := Lib.hid (@valsE_ok g W n N)
  generalize valsE g W n N = er at *
  obtain ⟨⟨k0, -⟩, ⟨k1, -⟩, ⟨k2, -⟩, ⟨k3, -⟩, ⟨k4, -⟩, ⟨k5, -⟩, -⟩ := hx4.out.cells
  by_cases he : er = 0
  case neg =>
    obtain ⟨rfl, rfl⟩ := hbad he
    clear hok hbad hVb
    rcases hcs.out with rfl | rfl | rfl
    · exact absurd rfl he
    all_goals
      clear he
      go_wp2_with (go_at_call 23; (with_reducible refine (hwk.out _).mono ?_); rintro e w5 ⟨rfl, hb5⟩; have hx5 := Lib.hid (hx4.out.step hb5))
      go_ret
      exact ⟨rfl, hx5.out.bel⟩
  subst he
  obtain ⟨hl, ho, LA0, hLA0⟩ := hok rfl
  have hE := Lib.hid (hEv.out rfl)
  have hn2 := hE.out.chk.two
  have hl' := Lib.hid hl
  have ho' := Lib.hid ho
  subst hLA0
  obtain ⟨OA, oc, rfl, -⟩ := ho
  have hCk := Lib.hid (RCheck_any _ n N w4 (hNb.out _ hx4.out.bel) (by omega))
  rw [check_yes hE.out.chk] at hCk
  have d2 : ((n : Int) != (n : Int)) = false := by simp
  clear hok hbad hcs hEv
  go_wp2_with fail
  refine hCk.out.mono ?_
  rintro e w5 ⟨rfl, hb5⟩
  have hx5 := Lib.hid (hx4.out.step hb5)
  have hl5 := Lib.hid (hl'.out.below hb5)
  clear hb5 hCk hx4 k0 k1 k2 k3 k4 k5 hl' ho'
  obtain ⟨⟨k0, -⟩, ⟨k1, -⟩, ⟨k2, -⟩, ⟨k3, -⟩, ⟨k4, -⟩, ⟨k5, -⟩, -⟩ := hx5.out.cells
  go_wp2_with fail
  obtain ⟨tb, tof, rfl, htb, hnd⟩ := hcs'.out (by omega)
  obtain ⟨LA', lc', hle, -, hlR, hlc⟩ := hl5.out
  injection hle with hle1 hle2 hle3
  subst hle1 hle3
  obtain ⟨lb, lo, rfl, hlb, hlc⟩ := hlc (by omega)
  have hIs := Lib.hid fun (s v : Int) (hs : R64 s) (hv : R64 v) (x : World) (hb : Below w.heap.size w x) => RIs_any SA FA MA ZA WA g.ns g.nf g.nm W.nz W.nf sc fc mc zc wq W s v x rfl (hZb.out x hb) (by have := hfW.out.nz; omega) hs hv
  have hK := Lib.hid fun (x : World) (h : Bx w (evK w (.slice SA g.ns sc) (.slice FA g.nf fc) (.slice MA g.nm mc) (.slice ZA W.nz zc) (.slice WA W.nf wq) (.slice (some ⟨tb, tof, none⟩) n tc)) x ∧ Below w5.heap.size w5 x) (j : Nat) (hj : j < n) =>
    (⟨h.1.cells.1.1, h.1.cells.2.1.1, h.1.cells.2.2.1.1, h.1.cells.2.2.2.1.1, h.1.cells.2.2.2.2.1.1, h.1.cells.2.2.2.2.2.1.1, ((hnd j hj).below h.1.bel htb).2.2.2.2.2.1, (h.2.cell (p := ⟨lb, lo + j, none⟩) hlb).trans (hlc j hj)⟩ : _ ∧ _ ∧ _ ∧ _ ∧ _ ∧ _ ∧ _ ∧ _)
  have hsr := Lib.hid fun (j : Nat) (hj : j < n) => (hE.out.chk.all j hj)
  have hR5 := Lib.hid hlR
  have hti := Lib.hid fun (j : Nat) (hj : j < n) => ev_is hE.out hj
  clear hnd hlc k0 k1 k2 k3 k4 k5 hlR
  go_loopw [12] (fun i wr => ∃ j : Nat, j ≤ n ∧ i = .int .i64 j ∧ Hid (Bx w (evK w (.slice SA g.ns sc) (.slice FA g.nf fc) (.slice MA g.nm mc) (.slice ZA W.nz zc) (.slice WA W.nf wq) (.slice (some ⟨tb, tof, none⟩) n tc)) wr ∧ Below w5.heap.size w5 wr)) (fun i _ => n - (intOf i).toNat)
  case atStart => exact ⟨0, Nat.zero_le _, rfl, hx5.out, Below.refl _ _⟩
  case round =>
    obtain ⟨j, hj, rfl, hx⟩ := hrel
    by_cases hlt : j < n
    · have i1 : decide ((j : Int) < (n : Int)) = true := decide_eq_true (by omega)
      obtain ⟨k0, k1, k2, k3, k4, k5, k6, k7⟩ := hK.out wr hx.out j hlt
      have hst := hsr.out j hlt
      have hI := Lib.hid (hIs.out (N j).sort (evF g W N n j).1 (by have := hst.sort0; have := hst.sort6; unfold R64; omega) (hR5.out j hlt))
      rw [hti.out j hlt] at hI
      have hj0 : decide (n ≤ j) = false := decide_eq_false (by omega)
      clear hst k0 k1 k2 k3 k4 k5 k6 k7
      obtain ⟨k0, k1, k2, k3, k4, k5, k6, k7⟩ := hK.out wr hx.out j hlt
      go_upto_region 11 with fail
      refine region_cls (fun x => Bx w (evK w (.slice SA g.ns sc) (.slice FA g.nf fc) (.slice MA g.nm mc) (.slice ZA W.nz zc) (.slice WA W.nf wq) (.slice (some ⟨tb, tof, none⟩) n tc)) x ∧ Below w5.heap.size w5 x) (by kernel_rfl) (by kernel_rfl) ⟨hx.out.1.drew, hx.out.2.drew⟩ ?_
      repeat (first
        | go_big_quiet_skip
        | (go_big_quiet_want; first
          | (go_big_quiet_op; go_big_quiet_on)
          | (unfold Oper.quiet; apply Exists.intro; refine ⟨fun x hx => ?_, ?_⟩; (obtain ⟨c0, c1, c2, c3, c4, c5, c6, c7⟩ := hK.out x hx j hlt; unfold Oper.quietAt; first
              | (go_simp; exact ⟨rfl, rfl⟩)
              | (go_simp; exact rfl)
              | (go_simp; done)
              | (go_simp; go_at_call 27; refine (hI.out x hx.1.bel).mono ?_; rintro e w' ⟨rfl, hb'⟩; exact ⟨rfl, hx.1.step hb', hx.2.trans (hb'.mono hx.2.size)⟩)
              | fail); go_simp; go_big_quiet_on)))
      refine wpQuiet_nil ?_
      rintro w6 hx6
      go_wp2_with fail
      go_roundw
      case rel => exact ⟨j + 1, by omega, by go_num, hx6⟩
      case measure => simp [intOf]; omega
    · have i1 : decide ((j : Int) < (n : Int)) = false := decide_eq_false (by omega)
      have hp : (0 : Int) < (n : Int) - 1 := by omega
      have t1 := Int.tmod_lt_of_pos cut hp
      have t0 := Int.lt_tmod_of_pos cut hp
      obtain ⟨⟨k0, -⟩, ⟨k1, -⟩, ⟨k2, -⟩, ⟨k3, -⟩, ⟨k4, -⟩, ⟨k5, -⟩, -⟩ := hx.out.1.cells
      go_wp2_with fail
      obtain ⟨i, hi, hi2, hin⟩ := cut_at2 n cut hn2 hn
      rw [hi]
      refine (RCut_yes _ n N i wr (hNb.out _ hx.out.1.bel) (by omega) hE.out.chk hi2 hin).mono ?_
      rintro e w6 ⟨⟨v6, rfl, hN6⟩, hb6⟩
      have hx6 := Lib.hid (hx.out.1.step hb6)
      have hN6' := Lib.hid hN6
      have hl6 := Lib.hid (hl5.out.below (hx.out.2.trans (hb6.mono hx.out.2.size)))
      obtain ⟨B6, c6, rfl, -, -, -⟩ := hN6
      clear hb6 k0 k1 k2 k3 k4 k5
      have hx7 := Lib.hid (hx6.out.skip (.cells #[.slice B6 i c6] 24))
      have hV7 := Lib.hid (hVb.out hfw.out hfW.out (.slice B6 i c6) i (by omega) (w6.alloc (.cells #[.slice B6 i c6] 24)) hx7.out.bel (hN6'.out.alloc _))
      obtain ⟨⟨k0, -⟩, ⟨k1, -⟩, ⟨k2, -⟩, ⟨k3, -⟩, ⟨k4, -⟩, ⟨k5, -⟩, -⟩ := hx7.out.cells
      have hval := Lib.hid (valsE_of (hE.out.cut hi2 hin))
      go_wp2_with fail
      refine hV7.out.mono ?_
      unfold ValsP
      rintro e w8 ⟨⟨vl8, vo8, rfl, hok8, -⟩, hb8⟩
      rw [hval.out] at hok8 ⊢
      obtain ⟨hl8, -, -⟩ := hok8 rfl
      have hx8 := Lib.hid (hx7.out.step hb8)
      have hl8' := Lib.hid hl8
      obtain ⟨L8, lc8, rfl, -, -, -⟩ := hl8
      have hb68 : Below w6.heap.size w6 w8 := ((Below.refl w6.heap.size w6).alloc (Nat.le_refl _) _).trans (hb8.mono (by simp))
      have hlp := Lib.hid (show IntsAt w8 (.slice (some ⟨lb, lo, none⟩) i n) i (fun j => (evF g W N n j).1) from by
        obtain ⟨A', c', he', hcc, hRR, hc'⟩ := hl6.out.below hb68
        injection he' with e1 e2 e3
        subst e1 e3
        exact ⟨_, _, rfl, by omega, fun k hk => hRR k (by omega), fun h0 => by
          obtain ⟨b', o', e', hb', hcell'⟩ := hc' (by omega)
          exact ⟨b', o', e', hb', fun k hk => hcell' k (by omega)⟩⟩)
      have hSm := Lib.hid (Same10_yes _ _ i _ _ w8 hl8'.out hlp.out (fun k hk => by rw [ev_cut hin hk]) (by omega))
      have hlcc : (i : Int) ≤ (n : Int) := by omega
      clear hb8 hx7 hV7 k0 k1 k2 k3 k4 k5
      go_wp2_with fail
      refine hSm.out.mono ?_
      rintro e w9 ⟨rfl, hb9⟩
      have hx9 := Lib.hid (hx8.out.step hb9)
      clear hb9
      go_wp2_with (go_at_call 23; (with_reducible refine (hwk.out _).mono ?_); rintro e w10 ⟨rfl, hb10⟩; have hx10 := Lib.hid (hx9.out.step hb10))
      go_ret
      exact ⟨rfl, hx10.out.bel⟩
end Go.Proofs.Ytdcohcjkimgccaa
