/- The law CoreMeans: the walk. -/
import Derived.Test.YtecmoahadckomaaGreatZMkTToMkWk
import Derived.Test.YtecmoahadckomaaGreatZAgAToMnC
import Derived.Test.YtecmoahadckomaaGreatZMkUR12Is
import Derived.Test.YtecmoahadckomaaGreatZR10ValsR10ValsB
import Derived.Test.YtecmoahadckomaaGreatZTermCToGreat5
import Derived.Test.YtecmoahadckomaaGreatZGreatG
import Derived.Test.YtecmoahadckomaaGreatZValWToGreatW12
namespace Go.Proofs.YtecmoahadckomaaGreat
open Go.RowKit Go.Maps
set_option maxRecDepth 1000000

theorem CoreP.isM {n : Nat} {N : Nat → Nd} (h : CoreP n N) : isCB n N = true :=
  isCB_yes ⟨h.ord, fun i hi => ⟨(h.ok i hi).kinds, (h.ok i hi).neg, (h.ok i hi).eq, fun o => ⟨⟨0, ((h.ok i hi).diff o).1.of h.chk⟩, ⟨0, ((h.ok i hi).diff o).2.1.of h.chk⟩, ((h.ok i hi).diff o).2.2⟩⟩⟩
set_option maxHeartbeats 16000000 in
theorem CoreMeans_any (sv fv mv zv wv tv rv : Value) (g : Sg) (W : Wd) (n : Nat) (N : Nat → Nd) (nr : Nat) (R : Nat → Int) (w : World) (hG : SgAt w sv fv mv g) (hW : WdAt w zv wv W) (hv : NdsAt w tv n N) (hr : IntsAt w rv nr R) :
    Calls Tryz.prog 3 #[.agg #[sv, fv, mv], .agg #[zv, wv], .agg #[tv], rv] w fun e w' => e = .returned (.bool true) ∧ Below w.heap.size w w' := by
  have hwk := Lib.hid wakes12_any
  have hx0 := Lib.hid (q10K_bx w sv fv mv zv wv tv)
  have hg1 := Lib.hid fun (x : World) (hb : Below w.heap.size w x) => Great_any sv fv mv g x (hG.below hb)
  have hg2 := Lib.hid fun (x : World) (hb : Below w.heap.size w x) => greatW_any zv wv W x (hW.below hb)
  have hg5 := Lib.hid fun (x : World) (hb : Below w.heap.size w x) => Great5_any tv n N x (hv.below hb)
  have hVr := Lib.hid fun (hw : FewW W) (hn : n ≤ 100000) (x : World) (hb : Below w.heap.size w x) => R10Values_any sv fv mv zv wv tv g W n N x (hG.below hb) (hW.below hb) hw (hv.below hb) hn
  have hVc := Lib.hid fun (hw : FewW W) (cv : Value) (m : Nat) (M : Nat → Nd) (hm : m ≤ 100000) (x : World) (hb : Below w.heap.size w x) (hc : NdsAt x cv m M) => R10Values_any sv fv mv zv wv cv g W m M x (hG.below hb) (hW.below hb) hw hc hm
  have hOf := Lib.hid fun (hn : n ≤ 3000) (hm : nr ≤ 1000) (x : World) (hb : Below w.heap.size w x) => Of12_any tv rv n nr N R 2000 x (hv.below hb) (hr.below hb) hn hm ⟨by decide, by decide⟩
  have hv' := Lib.hid hv
  have hr' := Lib.hid hr
  obtain ⟨SA, sc, rfl, -, -⟩ := hG.1
  obtain ⟨FA, fc, rfl, -, -⟩ := hG.2.1
  obtain ⟨MA, mc, rfl, -, -⟩ := hG.2.2
  obtain ⟨ZA, zc, rfl, -, -, -⟩ := hW.1
  obtain ⟨WA, wq, rfl, -, -⟩ := hW.2
  obtain ⟨TA, tc, rfl, -, -, htc⟩ := hv
  obtain ⟨RA, rc, rfl, -, hRR, hrc⟩ := hr
  have htc' := Lib.hid htc
  have hrc' := Lib.hid hrc
  have hRR' := Lib.hid hRR
  clear hG hW htc hrc hRR
  obtain ⟨k0, k1, k2, k3, k4, k5⟩ := q10K_cells hx0.out
  go_enter Tryz.func3, Tryz.ntmps3
  go_wp2_with fail
  refine (hg1.out _ hx0.out.bel).mono ?_
  rintro e w1 ⟨⟨bb, rfl, hfew⟩, hb1⟩
  have hx1 := Lib.hid (hx0.out.step hb1)
  clear hb1 hx0 hfew hg1 k0 k1 k2 k3 k4 k5
  cases bb with
  | true =>
    go_wp2_with (go_at_call 7; (with_reducible refine (hwk.out _).mono ?_); rintro e w2 ⟨rfl, hb2⟩; have hx2 := Lib.hid (hx1.out.step hb2))
    go_ret
    exact ⟨rfl, hx2.out.bel⟩
  | false =>
  obtain ⟨k0, k1, k2, k3, k4, k5⟩ := q10K_cells hx1.out
  go_wp2_with fail
  refine (hg2.out _ hx1.out.bel).mono ?_
  rintro e w2 ⟨rfl, hb2⟩
  have hx2 := Lib.hid (hx1.out.step hb2)
  have hsm := Lib.hid (fun h => great_small (W := W) h)
  clear hb2 hx1 hg2 k0 k1 k2 k3 k4 k5
  generalize greatWB W = bb at *
  cases bb with
  | true =>
    go_wp2_with (go_at_call 7; (with_reducible refine (hwk.out _).mono ?_); rintro e w3 ⟨rfl, hb3⟩; have hx3 := Lib.hid (hx2.out.step hb3))
    go_ret
    exact ⟨rfl, hx3.out.bel⟩
  | false =>
  have hfW := Lib.hid ((hsm.out rfl).few)
  obtain ⟨k0, k1, k2, k3, k4, k5⟩ := q10K_cells hx2.out
  clear hsm
  go_wp2_with fail
  refine (hg5.out _ hx2.out.bel).mono ?_
  rintro e w3 ⟨rfl, hb3⟩
  have hx3 := Lib.hid (hx2.out.step hb3)
  clear hb3 hx2 hg5 k0 k1 k2 k3 k4 k5
  by_cases hn3 : 300 < n
  · have d1 : decide (300 < n) = true := decide_eq_true hn3
    clear hn3
    go_wp2_with (go_at_call 7; (with_reducible refine (hwk.out _).mono ?_); rintro e w4 ⟨rfl, hb4⟩; have hx4 := Lib.hid (hx3.out.step hb4))
    go_ret
    exact ⟨rfl, hx4.out.bel⟩
  have d1 : decide (300 < n) = false := decide_eq_false hn3
  have hn : n ≤ 300 := by omega
  by_cases hm3 : 100 < nr
  · have d2 : decide ((100 : Int) < (nr : Int)) = true := decide_eq_true (by omega)
    clear hm3 hn3
    go_wp2_with (go_at_call 7; (with_reducible refine (hwk.out _).mono ?_); rintro e w4 ⟨rfl, hb4⟩; have hx4 := Lib.hid (hx3.out.step hb4))
    go_ret
    exact ⟨rfl, hx4.out.bel⟩
  have d2 : decide ((100 : Int) < (nr : Int)) = false := decide_eq_false (by omega)
  have hnr : nr ≤ 100 := by omega
  have hVr' := Lib.hid (hVr.out hfW.out (by omega))
  have hOf' := Lib.hid (hOf.out (by omega) (by omega))
  clear hm3 hn3 hVr hOf
  obtain ⟨k0, k1, k2, k3, k4, k5⟩ := q10K_cells hx3.out
  go_wp2_with fail
  refine (hVr'.out _ hx3.out.bel).mono ?_
  unfold RVals10
  rintro e w4 ⟨⟨vl, vo, rfl, hok, hbad⟩, hb4⟩
  have hx4 := Lib.hid (hx3.out.step hb4)
  have hTe := Lib.hid (fun h => valsE_ok (g := g) (W := W) (n := n) (N := N) h)
  clear hb4 hx3 k0 k1 k2 k3 k4 k5 d1 d2
  generalize valsE g W n N = er at *
  by_cases he : er = 0
  case neg =>
    obtain ⟨rfl, rfl⟩ := hbad he
    have d3 : (er != 0) = true := by simpa using he
    clear he hok hbad
    go_wp2_with (go_at_call 7; (with_reducible refine (hwk.out _).mono ?_); rintro e w5 ⟨rfl, hb5⟩; have hx5 := Lib.hid (hx4.out.step hb5))
    go_ret
    exact ⟨rfl, hx5.out.bel⟩
  subst he
  obtain ⟨hl, ho⟩ := hok rfl
  have hT := Lib.hid (hTe.out rfl)
  have hl4 := Lib.hid hl
  have ho4 := Lib.hid ho
  obtain ⟨LA, lc, rfl, -⟩ := hl
  obtain ⟨OA, oc, rfl, -⟩ := ho
  clear hbad hok hTe
  obtain ⟨k0, k1, k2, k3, k4, k5⟩ := q10K_cells hx4.out
  go_wp2_with fail
  refine (hOf'.out _ hx4.out.bel).mono ?_
  rintro e w5 ⟨v3, vl3, m, M, k, X, er, rfl, hO, hN, hI, hb5⟩
  have hx5 := Lib.hid (hx4.out.step hb5)
  have hl5 := Lib.hid (hl4.out.below hb5)
  have ho5 := Lib.hid (ho4.out.below hb5)
  have hO' := Lib.hid hO
  have hN' := Lib.hid hN
  have hI' := Lib.hid hI
  clear hx4 hb5 k0 k1 k2 k3 k4 k5 hl4 ho4 hO hOf'
  obtain ⟨B, cb, rfl, -, -, -⟩ := hN
  obtain ⟨L, cl, rfl, -, -, -⟩ := hI
  rcases hO'.out.errs hT.out with rfl | rfl | rfl | rfl
  case inr.inl =>
    go_wp2_with (go_at_call 7; (with_reducible refine (hwk.out _).mono ?_); rintro e w6 ⟨rfl, hb6⟩; have hx6 := Lib.hid ((hx5.out.skip _).step hb6))
    go_ret
    exact ⟨rfl, hx6.out.bel⟩
  case inr.inr.inl =>
    go_wp2_with (go_at_call 7; (with_reducible refine (hwk.out _).mono ?_); rintro e w6 ⟨rfl, hb6⟩; have hx6 := Lib.hid ((hx5.out.skip _).step hb6))
    go_ret
    exact ⟨rfl, hx6.out.bel⟩
  case inr.inr.inr =>
    go_wp2_with (go_at_call 7; (with_reducible refine (hwk.out _).mono ?_); rintro e w6 ⟨rfl, hb6⟩; have hx6 := Lib.hid ((hx5.out.skip _).step hb6))
    go_ret
    exact ⟨rfl, hx6.out.bel⟩
  have hM := Lib.hid (hO'.out.made rfl (by omega))
  have hm2 : 2 ≤ m := hM.out.core.chk.two
  have hmf : m ≤ 2000 := by have := (hO'.out.madeI rfl).few; omega
  obtain rfl : k = nr := hM.out.len
  have hmean := Lib.hid (hO'.out.means rfl hT.out)
  clear hO'
  have hb6 := Lib.hid ((Below.refl w5.heap.size w5).alloc (Nat.le_refl _) (.cells #[.slice B m cb] 33))
  have hx6 := Lib.hid (hx5.out.one (.slice B m cb) 33)
  have hN6 := Lib.hid (hN'.out.below hb6.out)
  have hI6 := Lib.hid (hI'.out.below hb6.out)
  have hl6 := Lib.hid (hl5.out.below hb6.out)
  have ho6 := Lib.hid (ho5.out.below hb6.out)
  have hV6 := Lib.hid (hVc.out hfW.out _ m M (by omega) _ hx6.out.bel hN6.out)
  have hE0 : Hid (valsE g W m M = 0) := valsE_of hmean.out.1
  have hx6q := Lib.hid (hx5.out.skip (.cells #[.slice B m cb] 33))
  obtain ⟨⟨q6, z6⟩, -⟩ := hx6.out.cells
  obtain ⟨k0, k1, k2, k3, k4, k5⟩ := q10K_cells hx6q.out
  clear hVr' hVc hl5 ho5 hN' hI' hx5 hb6
  go_wp2_with fail
  refine hV6.out.mono ?_
  unfold RVals10
  rw [hE0.out]
  rintro e w7 ⟨⟨vx, vp, rfl, hok7, -⟩, hb7⟩
  have hx7 := Lib.hid (hx6.out.step hb7)
  have hN7 := Lib.hid (hN6.out.below hb7)
  have hI7 := Lib.hid (hI6.out.below hb7)
  have hl7 := Lib.hid (hl6.out.below hb7)
  have ho7 := Lib.hid (ho6.out.below hb7)
  obtain ⟨hvx, hvp⟩ := hok7 rfl
  have hvx7 := Lib.hid hvx
  have hvp7 := Lib.hid hvp
  obtain ⟨XA, xc, rfl, -⟩ := hvx
  obtain ⟨PA', pc, rfl, -⟩ := hvp
  have hIs := Lib.hid (R12Is_any _ m M w7 hN7.out (by omega))
  rw [hM.out.core.isM] at hIs
  have d4 : ((k : Int) != (k : Int)) = false := by simp
  clear hok7 hb7 hV6 hE0 hx6q hx6 hN6 hI6 hl6 ho6 k0 k1 k2 k3 k4 k5 q6 z6
  obtain ⟨⟨q7, z7⟩, -⟩ := hx7.out.cells
  go_wp2_with fail
  refine hIs.out.mono ?_
  rintro e w8 ⟨rfl, hb8⟩
  have hx8 := Lib.hid (hx7.out.step hb8)
  have hN8 := Lib.hid (hN7.out.below hb8)
  have hI8 := Lib.hid (hI7.out.below hb8)
  have hl8 := Lib.hid (hl7.out.below hb8)
  have ho8 := Lib.hid (ho7.out.below hb8)
  have hvx8 := Lib.hid (hvx7.out.below hb8)
  have hvp8 := Lib.hid (hvp7.out.below hb8)
  clear hb8 hx7 hN7 hI7 hl7 ho7 hvx7 hvp7 q7 z7 hIs d4
  go_wp2_with fail
  go_loopw [18] (fun i wr => ∃ j : Nat, j ≤ k ∧ i = .int .i64 j ∧ Hid (Bx w ((w5.heap.size, 0, .slice B m cb) :: q10K w (.slice SA g.ns sc) (.slice FA g.nf fc) (.slice MA g.nm mc) (.slice ZA W.nz zc) (.slice WA W.nf wq) (.slice TA n tc)) wr ∧ Below w8.heap.size w8 wr)) (fun i _ => k - (intOf i).toNat)
  case atStart => exact ⟨0, Nat.zero_le _, rfl, hx8.out, Below.refl _ _⟩
  case round =>
  clear hx8
  obtain ⟨j, hj, rfl, hx⟩ := hrel
  by_cases hlt : j < k
  case neg =>
    have i1 : decide ((j : Int) < (k : Int)) = false := decide_eq_false (by omega)
    go_wp2_with (go_at_call 7; (with_reducible refine (hwk.out _).mono ?_); rintro e w9 ⟨rfl, hb9⟩; have hx9 := Lib.hid (hx.out.1.step hb9))
    go_ret
    exact ⟨rfl, hx9.out.bel⟩
  have i1 : decide ((j : Int) < (k : Int)) = true := decide_eq_true (by omega)
  obtain ⟨r0, r1⟩ := hM.out.root j hlt
  obtain ⟨x0, x1, hso⟩ := hM.out.img j hlt
  have hval := hmean.out.2 j hlt
  obtain ⟨i, hi⟩ : ∃ i : Nat, R j = i := ⟨(R j).toNat, by omega⟩
  obtain ⟨y, hy⟩ : ∃ y : Nat, X j = y := ⟨(X j).toNat, by omega⟩
  rw [hi] at r0 r1 hso hval
  rw [hy] at x0 x1 hso hval
  rw [Int.toNat_natCast, Int.toNat_natCast] at hso hval
  have hin : i < n := by omega
  have hym : y < m := by omega
  obtain ⟨rb, ro, rfl, hrb, hrc⟩ := hrc'.out (by omega)
  obtain ⟨tb, to_, rfl, htb, htc⟩ := htc'.out (by omega)
  obtain ⟨_, _, e1, _, _, hc1⟩ := hI8.out
  injection e1 with e11 _ e13
  subst e11; subst e13
  obtain ⟨lb, lo, rfl, hlb, hc1⟩ := hc1 (by omega)
  obtain ⟨_, _, e2, _, _, hc2⟩ := hN8.out
  injection e2 with e21 _ e23
  subst e21; subst e23
  obtain ⟨cbk, co, rfl, hcb, hc2⟩ := hc2 (by omega)
  obtain ⟨_, _, e3, _, _, hc3⟩ := hl8.out
  injection e3 with e31 _ e33
  subst e31; subst e33
  obtain ⟨vb, vo_, rfl, hvb, hc3⟩ := hc3 (by omega)
  obtain ⟨_, _, e4, hc4⟩ := ho8.out
  injection e4 with e41 _ e43
  subst e41; subst e43
  obtain ⟨ob, oo, rfl, hob, hc4⟩ := hc4 (by omega)
  obtain ⟨_, _, e5, _, _, hc5⟩ := hvx8.out
  injection e5 with e51 _ e53
  subst e51; subst e53
  obtain ⟨xb, xo, rfl, hxb, hc5⟩ := hc5 (by omega)
  obtain ⟨_, _, e6, hc6⟩ := hvp8.out
  injection e6 with e61 _ e63
  subst e61; subst e63
  obtain ⟨pb, po, rfl, hpb, hc6⟩ := hc6 (by omega)
  have f1 := Lib.hid (hc1 j hlt)
  have f2 := Lib.hid (hc2 y hym).2.2.2.2.2.1
  have f3 := Lib.hid (hc3 i hin)
  have f4 := Lib.hid (hc4 i hin)
  have f5 := Lib.hid (hc5 y hym)
  have f6 := Lib.hid (hc6 y hym)
  have f7 := Lib.hid (hrc j hlt)
  have f8 := Lib.hid (htc i hin).2.2.2.2.2.1
  have hval' := Lib.hid hval
  clear hc1 hc2 hc3 hc4 hc5 hc6 hrc htc hval
  unfold Hid at f3 f4 f5 f6
  dsimp only at f3 f4 f5 f6
  have f3 := Lib.hid f3
  have f4 := Lib.hid f4
  have f5 := Lib.hid f5
  have f6 := Lib.hid f6
  rw [hy] at f1
  rw [hi] at f7
  rw [hso] at f2
  have hi' := Lib.hid hi
  have hy' := Lib.hid hy
  clear hi hy hso
  have hfs := Lib.hid fun (x : World) (hb : Below w8.heap.size w8 x) (hw : Below w.heap.size w x) => (⟨(hb.cell (p := ⟨lb, lo + j, none⟩) hlb).trans f1.out, (hb.cell (p := ⟨cbk, co + y * 8 + 5, none⟩) hcb).trans f2.out, (hb.cell (p := ⟨vb, vo_ + i, none⟩) hvb).trans f3.out, (hb.cell (p := ⟨ob, oo + i, none⟩) hob).trans f4.out, (hb.cell (p := ⟨xb, xo + y, none⟩) hxb).trans f5.out, (hb.cell (p := ⟨pb, po + y, none⟩) hpb).trans f6.out, (hw.cell (p := ⟨rb, ro + j, none⟩) hrb).trans f7.out, (hw.cell (p := ⟨tb, to_ + i * 8 + 5, none⟩) htb).trans f8.out⟩ : _ ∧ _ ∧ _ ∧ _ ∧ _ ∧ _ ∧ _ ∧ _)
  clear f1 f2 f3 f4 f5 f6 f7 f8
  generalize (N i).sort = so at *
  generalize hq1 : evF g W N n i = ev1 at *
  generalize hq2 : evF g W M m y = ev2 at *
  clear hq1 hq2
  obtain ⟨a1, a2⟩ := ev1
  obtain ⟨b1, b2⟩ := ev2
  have hj0 : (0 : Int) ≤ (j : Int) := by omega
  have hjk : (j : Int) < (k : Int) := by omega
  have d1 : decide ((i : Int) < 0) = false := decide_eq_false (by omega)
  have d2 : decide ((n : Int) ≤ (i : Int)) = false := decide_eq_false (by omega)
  have d2' : decide (n ≤ i) = false := decide_eq_false (by omega)
  have d3 : decide ((y : Int) < 0) = false := decide_eq_false (by omega)
  have d4 : decide ((m : Int) ≤ (y : Int)) = false := decide_eq_false (by omega)
  have d4' : decide (m ≤ y) = false := decide_eq_false (by omega)
  have d5 : (so != so) = false := by simp
  obtain ⟨g1, g2, g3, g4, g5, g6, g7, g8⟩ := hfs.out wr hx.out.2 hx.out.1.bel
  have kt := hx.out.1.cells.2.1.1
  have kc := hx.out.1.cells.1.1
  go_wp2_with fail
  go_quiet (fail)
  have hx2 := Lib.hid (⟨hx.out.1.drewN nq, hx.out.2.trans (below_drewN (Below.refl _ _) nq)⟩ : Bx w ((w5.heap.size, 0, .slice (some ⟨cbk, co, none⟩) m cb) :: q10K w (.slice SA g.ns sc) (.slice FA g.nf fc) (.slice MA g.nm mc) (.slice ZA W.nz zc) (.slice WA W.nf wq) (.slice (some ⟨tb, to_, none⟩) n tc)) (wr.drewN nq) ∧ Below w8.heap.size w8 (wr.drewN nq))
  clear hx g1 g2 g3 g4 g5 g6 g7 g8 kt kc d1 d2 d2' d3 d4 d4' d5
  generalize hw2 : wr.drewN nq = wr2 at *
  clear hw2
  obtain ⟨g1, g2, g3, g4, g5, g6, g7, g8⟩ := hfs.out wr2 hx2.out.2 hx2.out.1.bel
  have hxq := Lib.hid (fun q => (⟨hx2.out.1.drewN q, hx2.out.2.trans (below_drewN (Below.refl _ _) q)⟩ : Bx w ((w5.heap.size, 0, .slice (some ⟨cbk, co, none⟩) m cb) :: q10K w (.slice SA g.ns sc) (.slice FA g.nf fc) (.slice MA g.nm mc) (.slice ZA W.nz zc) (.slice WA W.nf wq) (.slice (some ⟨tb, to_, none⟩) n tc)) (wr2.drewN q) ∧ Below w8.heap.size w8 (wr2.drewN q)))
  cases a2 with
  | true =>
    go_wp2_with fail
    go_quiet (fail)
    go_wp2_with fail
    go_roundw
    case rel => exact ⟨j + 1, by omega, by go_num, hxq.out _⟩
    case measure => simp [intOf]; omega
  | false =>
    have hv2 := hval'.out rfl
    injection hv2 with hv3 hv4
    subst hv3; subst hv4
    have d6 : (b1 != b1) = false := by simp
    go_wp2_with fail
    go_quiet (fail)
    go_wp2_with fail
    go_roundw
    case rel => exact ⟨j + 1, by omega, by go_num, hxq.out _⟩
    case measure => simp [intOf]; omega
end Go.Proofs.YtecmoahadckomaaGreat
