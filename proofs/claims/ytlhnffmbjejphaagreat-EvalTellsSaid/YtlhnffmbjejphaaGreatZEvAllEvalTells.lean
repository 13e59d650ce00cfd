/- eval.All. -/
import Derived.Test.YtlhnffmbjejphaaGreatZEvVWakes10
import Derived.Test.YtlhnffmbjejphaaGreatZEvPToAllW
import Derived.Test.YtlhnffmbjejphaaGreatZR10ValsR10ValsBR10V
import Derived.Test.YtlhnffmbjejphaaGreatZIntsToSame10
import Derived.Test.YtlhnffmbjejphaaGreatZGreatG
import Derived.Test.YtlhnffmbjejphaaGreatZValWRIsGreatW
import Derived.Test.YtlhnffmbjejphaaGreatZTermCToSetBox
namespace Go.Proofs.YtlhnffmbjejphaaGreat
open Go.RowKit
set_option maxRecDepth 100000

set_option maxHeartbeats 8000000 in
theorem EAll_any (sv fv mv zv wv tv rv : Value) (g : Sg) (W : Wd) (n : Nat) (N : Nat → Nd) (m : Nat) (R : Nat → Int) (w : World) (hG : SgAt w sv fv mv g) (hf : FewG g) (hW : WdAt w zv wv W) (hw : FewW W) (hv : NdsAt w tv n N) (hn : n ≤ 100000) (hR : IntsAt w rv m R) :
    Calls Tryz.prog 14 #[.agg #[sv, fv, mv], .agg #[zv, wv], .agg #[tv], rv] w fun z w' => z = .returned (.tuple #[.bool (allT g W n N m R).1, .int .i64 (allT g W n N m R).2]) ∧ Below w.heap.size w w' := by
  have hx := Lib.hid (q10K_bx w sv fv mv zv wv tv)
  have hV := Lib.hid (Values_any sv fv mv zv wv tv g W n N _ (hG.below hx.out.bel) hf (hW.below hx.out.bel) hw (hv.below hx.out.bel) (by omega))
  have hT : Hid (allT g W n N m R = if valsE g W n N ≠ 0 then (false, valsE g W n N) else allS g W n N R m) := rfl
  have herr := Lib.hid (fun (k m : Nat) (a : k < m) b c => allS_err (g := g) (W := W) (n := n) (N := N) (R := R) (k := k) (m := m) a b c)
  have hmore := Lib.hid (fun (k : Nat) a b => allS_more (g := g) (W := W) (n := n) (N := N) (R := R) (k := k) a b)
  have hcs := Lib.hid (fun (x : World) (hb : Below w.heap.size w x) => hv.below hb)
  obtain ⟨A, c, rfl, -, -⟩ := hG.1
  obtain ⟨FA, fc, rfl, -, -⟩ := hG.2.1
  obtain ⟨MA, mc, rfl, -, -⟩ := hG.2.2
  obtain ⟨ZA, zc, rfl, -, -, -⟩ := hW.1
  obtain ⟨WA, wq, rfl, -, -⟩ := hW.2
  obtain ⟨TA, tc, rfl, -, -, -⟩ := hv
  obtain ⟨RA, rc, rfl, hm63, hRR, hRc⟩ := hR
  have hRc' := Lib.hid hRc
  have hRR' := Lib.hid hRR
  clear hG hW hw hRc hRR
  obtain ⟨k0, k1, k2, k3, k4, k5⟩ := q10K_cells hx.out
  go_enter Tryz.func14, Tryz.ntmps14
  go_wp2_with fail
  refine hV.out.mono ?_
  unfold ValsP
  rintro e w1 ⟨⟨vl, vo, rfl, hok, hbad⟩, hb1⟩
  have hx1 := Lib.hid (hx.out.step hb1)
  clear hb1 hV hx k0 k1 k2 k3 k4 k5
  generalize valsE g W n N = er at *
  by_cases he : er = 0
  case neg =>
    obtain ⟨rfl, rfl⟩ := hbad he
    have d1 : (er != 0) = true := by simpa using he
    have hF : Hid (allT g W n N m R = (false, er)) := by unfold Hid; rw [hT.out, if_pos he]
    clear he hok hbad
    go_wp2_with fail
    exact bodyPost_ret (results_tmp2 rfl _ _ _) rfl ⟨by rw [hF.out]; rfl, hx1.out.bel⟩
  subst he
  have hT1 : Hid (allT g W n N m R = allS g W n N R m) := by unfold Hid; rw [hT.out, if_neg (fun h => h rfl)]
  obtain ⟨hl, ho, -⟩ := hok rfl
  obtain ⟨LA, lc, rfl, -, -, hlc⟩ := hl
  obtain ⟨OA, oc, rfl, hoc⟩ := ho
  have hlc' := Lib.hid hlc
  have hoc' := Lib.hid hoc
  clear hlc hoc hbad hok hT
  go_wp2_with fail
  go_loopw [13, 29] (fun b i wr => ∃ j : Nat, j ≤ m ∧ i = .int .i64 j ∧ (allS g W n N R j).2 = 0 ∧ b = .bool (allS g W n N R j).1 ∧ Hid (Bx w (q10K w (.slice A g.ns c) (.slice FA g.nf fc) (.slice MA g.nm mc) (.slice ZA W.nz zc) (.slice WA W.nf wq) (.slice TA n tc)) wr ∧ Below w1.heap.size w1 wr)) (fun _ i _ => m - (intOf i).toNat)
  case atStart => exact ⟨0, Nat.zero_le _, rfl, rfl, rfl, hx1.out, Below.refl _ _⟩
  case round =>
  clear hx1
  obtain ⟨j, hj, rfl, hz, rfl, hx⟩ := hrel
  have hz' := Lib.hid hz
  clear hz
  by_cases hlt : j < m
  case neg =>
    have i1 : decide ((j : Int) < (m : Int)) = false := decide_eq_false (by omega)
    obtain rfl : j = m := by omega
    have hF : Hid (allT g W n N j R = ((allS g W n N R j).1, 0)) := by unfold Hid; rw [hT1.out]; exact Prod.ext rfl hz'.out
    generalize (allS g W n N R j).1 = q at *
    go_wp2_with fail
    exact bodyPost_ret (results_tmp2 rfl _ _ _) rfl ⟨by rw [hF.out]; rfl, hx.out.1.bel⟩
  have i1 : decide ((j : Int) < (m : Int)) = true := decide_eq_true (by omega)
  obtain ⟨rb, ro, rfl, hrb, hc⟩ := hRc'.out (by omega)
  have rj := (hx.out.1.bel.cell (p := ⟨rb, ro + j, none⟩) hrb).trans (hc j hlt)
  have herrj := Lib.hid (fun h => hT1.out.trans (herr.out j m hlt hz'.out h))
  have hmorej := Lib.hid (hmore.out j hz'.out)
  have haE : Hid (allE g W n N (R j) = if R j < 0 then 2 else if (n : Int) ≤ R j then 2 else if (evF g W N n (R j).toNat).2 = true then 10 else if (N (R j).toNat).sort ≠ 0 then 33 else 0) := rfl
  have hj0 : (0 : Int) ≤ (j : Int) := by omega
  have hjm : (j : Int) < (m : Int) := by omega
  clear hc
  by_cases h1 : R j < 0
  · have d1 : decide (R j < 0) = true := decide_eq_true h1
    have hE : allE g W n N (R j) = 2 := by rw [haE.out, if_pos h1]
    have hF : Hid (allT g W n N m R = (false, 2)) := by unfold Hid; rw [herrj.out (by rw [hE]; decide), hE]
    clear h1 hE
    go_wp2_with fail
    exact bodyPost_ret (results_tmp2 rfl _ _ _) rfl ⟨by rw [hF.out]; rfl, hx.out.1.bel⟩
  have d1 : decide (R j < 0) = false := decide_eq_false h1
  obtain ⟨i, hi⟩ : ∃ i : Nat, R j = i := ⟨(R j).toNat, by omega⟩
  rw [hi] at rj d1 haE hmorej herrj
  rw [Int.toNat_natCast] at haE hmorej
  clear h1
  by_cases h2 : (n : Int) ≤ (i : Int)
  · have d2 : decide ((n : Int) ≤ (i : Int)) = true := decide_eq_true h2
    have d3 : decide (n ≤ i) = true := decide_eq_true (by omega)
    have hE : allE g W n N (i : Int) = 2 := by rw [haE.out, if_neg (by omega), if_pos h2]
    have hF : Hid (allT g W n N m R = (false, 2)) := by unfold Hid; rw [herrj.out (by rw [hE]; decide), hE]
    clear h2 hE hi
    go_wp2_with fail
    exact bodyPost_ret (results_tmp2 rfl _ _ _) rfl ⟨by rw [hF.out]; rfl, hx.out.1.bel⟩
  have d2 : decide ((n : Int) ≤ (i : Int)) = false := decide_eq_false h2
  have d3 : decide (n ≤ i) = false := decide_eq_false (by omega)
  have hin : i < n := by omega
  have hi0 : (0 : Int) ≤ (i : Int) := by omega
  have hi1 : (i : Int) < (n : Int) := by omega
  have haE2 : Hid (allE g W n N (i : Int) = if (evF g W N n i).2 = true then 10 else if (N i).sort ≠ 0 then 33 else 0) := by unfold Hid; rw [haE.out, if_neg (by omega), if_neg h2]
  obtain ⟨lb, lo, rfl, hlb, hlc⟩ := hlc'.out (by omega)
  obtain ⟨ob, oo, rfl, hob, hoc⟩ := hoc'.out (by omega)
  have rl := (hx.out.2.cell (p := ⟨lb, lo + i, none⟩) hlb).trans (hlc i hin)
  have ro2 := (hx.out.2.cell (p := ⟨ob, oo + i, none⟩) hob).trans (hoc i hin)
  obtain ⟨_, _, et, _, _, htc⟩ := hcs.out _ hx.out.1.bel
  injection et with et1 _ et3
  subst et1; subst et3
  obtain ⟨tb, to_, rfl, htb, htc⟩ := htc (by omega)
  obtain ⟨_, _, _, _, _, q5, _, _⟩ := htc i hin
  have kt := hx.out.1.cells.1.1
  have hi' := Lib.hid hi
  clear hlc hoc htc h2 haE hi
  try dsimp only at rl
  try dsimp only at ro2
  generalize evF g W N n i = r at *
  obtain ⟨r1, r2⟩ := r
  try dsimp only at rl
  try dsimp only at ro2
  try dsimp only at hmorej
  try dsimp only at haE2
  cases r2 with
  | true =>
    have hE : allE g W n N (i : Int) = 10 := haE2.out
    have hF : Hid (allT g W n N m R = (false, 10)) := by unfold Hid; rw [herrj.out (by rw [hE]; decide), hE]
    clear hE
    go_wp2_with fail
    exact bodyPost_ret (results_tmp2 rfl _ _ _) rfl ⟨by rw [hF.out]; rfl, hx.out.1.bel⟩
  | false =>
  by_cases h4 : (N i).sort = 0
  case neg =>
    have d4 : ((N i).sort != 0) = true := by simpa using h4
    have hE : allE g W n N (i : Int) = 33 := by rw [haE2.out, if_neg (by simp), if_pos h4]
    have hF : Hid (allT g W n N m R = (false, 33)) := by unfold Hid; rw [herrj.out (by rw [hE]; decide), hE]
    clear h4 hE
    go_wp2_with fail
    exact bodyPost_ret (results_tmp2 rfl _ _ _) rfl ⟨by rw [hF.out]; rfl, hx.out.1.bel⟩
  have d4 : ((N i).sort != 0) = false := by simpa using h4
  have hE : Hid (allE g W n N (i : Int) = 0) := by unfold Hid; rw [haE2.out, if_neg (by simp), if_neg (fun h => h h4)]
  have hnext := Lib.hid (hmorej.out hE.out)
  clear h4 hmorej herrj haE2 hE
  generalize (allS g W n N R j).1 = q at *
  cases q with
  | false =>
    go_wp2_with fail
    go_roundw
    case rel => exact ⟨j + 1, by omega, by go_num, by rw [hnext.out], by rw [hnext.out]; rfl, hx.out⟩
    case measure => simp [intOf]; omega
  | true =>
    rw [Bool.true_and] at hnext
    go_wp2_with fail
    go_roundw
    case rel => exact ⟨j + 1, by omega, by go_num, by rw [hnext.out], by rw [hnext.out], hx.out⟩
    case measure => simp [intOf]; omega
end Go.Proofs.YtlhnffmbjejphaaGreat

namespace Go.Proofs.YtlhnffmbjejphaaGreat
open Go.RowKit
set_option maxRecDepth 1000000

/-- How many values come. -/
noncomputable def valN (g : Sg) (W : Wd) (n : Nat) (N : Nat → Nd) : Nat := if valsE g W n N = 0 then n else 0
theorem valN_le (g : Sg) (W : Wd) (n : Nat) (N : Nat → Nd) : valN g W n N ≤ n := by unfold valN; split <;> omega
theorem ints_none (w : World) (f : Nat → Int) : IntsAt w (.slice none 0 0) 0 f := ⟨none, 0, rfl, by omega, fun _ h => absurd h (Nat.not_lt_zero _), fun h => absurd h (Nat.not_lt_zero _)⟩
theorem bls_none (w : World) (f : Nat → Bool) : BlsAt w (.slice none 0 0) 0 f := ⟨none, 0, rfl, fun h => absurd h (Nat.not_lt_zero _)⟩
def BothP (g : Sg) (W : Wd) (n : Nat) (N : Nat → Nd) (er : Int) (nn : Nat) (w : World) (z : Ending) (w' : World) : Prop :=
  (∃ vl vo, z = .returned (.tuple #[vl, vo, .int .i64 er]) ∧ IntsAt w' vl nn (fun j => (evF g W N n j).1) ∧ BlsAt w' vo nn (fun j => (evF g W N n j).2)) ∧ Below w.heap.size w w'
theorem both_prog {g : Sg} {W : Wd} {n : Nat} {N : Nat → Nd} {w : World} {z : Ending} {w' : World} (h : ValsP g W n N w z w') : BothP g W n N (valsE g W n N) (valN g W n N) w z w' := by
  obtain ⟨⟨vl, vo, rfl, hok, hbad⟩, hb⟩ := h
  refine ⟨⟨vl, vo, rfl, ?_⟩, hb⟩
  unfold valN
  by_cases he : valsE g W n N = 0
  · rw [if_pos he]
    obtain ⟨h1, h2, _⟩ := hok he
    exact ⟨h1, h2⟩
  · obtain ⟨rfl, rfl⟩ := hbad he
    rw [if_neg he]
    exact ⟨ints_none _ _, bls_none _ _⟩
theorem both_ref {g : Sg} {W : Wd} {n : Nat} {N : Nat → Nd} {w : World} {z : Ending} {w' : World} (h : RVals10 g W n N w z w') : BothP g W n N (valsE g W n N) (valN g W n N) w z w' := by
  obtain ⟨⟨vl, vo, rfl, hok, hbad⟩, hb⟩ := h
  refine ⟨⟨vl, vo, rfl, ?_⟩, hb⟩
  unfold valN
  by_cases he : valsE g W n N = 0
  · rw [if_pos he]
    exact hok he
  · obtain ⟨rfl, rfl⟩ := hbad he
    rw [if_neg he]
    exact ⟨ints_none _ _, bls_none _ _⟩
set_option maxHeartbeats 16000000 in
theorem EvalTells_any (sv fv mv zv wv tv rv : Value) (g : Sg) (W : Wd) (n : Nat) (N : Nat → Nd) (id : Int) (m : Nat) (R : Nat → Int) (w : World) (hG : SgAt w sv fv mv g) (hW : WdAt w zv wv W) (hv : NdsAt w tv n N) (hR : IntsAt w rv m R) :
    Calls Tryz.prog 3 #[.agg #[sv, fv, mv], .agg #[zv, wv], .agg #[tv], .int .i64 id, rv] w fun e w' => e = .returned (.bool true) ∧ Below w.heap.size w w' := by
  have hwk := Lib.hid wakes10_any
  have hx0 := Lib.hid (q10K_bx w sv fv mv zv wv tv)
  have hg1 := Lib.hid fun (x : World) (hb : Below w.heap.size w x) => Great_any sv fv mv g x (hG.below hb)
  have hg2 := Lib.hid fun (x : World) (hb : Below w.heap.size w x) => greatW_any zv wv W x (hW.below hb)
  have hg5 := Lib.hid fun (x : World) (hb : Below w.heap.size w x) => Great5_any tv n N x (hv.below hb)
  have hVp := Lib.hid fun (hf : FewG g) (hw : FewW W) (hn : n ≤ 100000) (x : World) (hb : Below w.heap.size w x) => (Values_any sv fv mv zv wv tv g W n N x (hG.below hb) hf (hW.below hb) hw (hv.below hb) (by omega)).mono fun _ _ h => both_prog h
  have hVr := Lib.hid fun (hw : FewW W) (hn : n ≤ 100000) (x : World) (hb : Below w.heap.size w x) => (R10Values_any sv fv mv zv wv tv g W n N x (hG.below hb) (hW.below hb) hw (hv.below hb) hn).mono fun _ _ h => both_ref h
  have hOp := Lib.hid fun (hf : FewG g) (hw : FewW W) (hn : n ≤ 100000) (x : World) (hb : Below w.heap.size w x) => EValue_any sv fv mv zv wv tv g W n N id x (hG.below hb) hf (hW.below hb) hw (hv.below hb) (by omega)
  have hOr := Lib.hid fun (hw : FewW W) (hn : n ≤ 100000) (x : World) (hb : Below w.heap.size w x) => R10Value_any sv fv mv zv wv tv g W n N id x (hG.below hb) (hW.below hb) hw (hv.below hb) hn
  have hAp := Lib.hid fun (hf : FewG g) (hw : FewW W) (hn : n ≤ 100000) (x : World) (hb : Below w.heap.size w x) => EAll_any sv fv mv zv wv tv rv g W n N m R x (hG.below hb) hf (hW.below hb) hw (hv.below hb) hn (hR.below hb)
  have hAr := Lib.hid fun (hw : FewW W) (hn : n ≤ 100000) (x : World) (hb : Below w.heap.size w x) => R10All_any sv fv mv zv wv tv rv g W n N m R x (hG.below hb) (hW.below hb) hw (hv.below hb) hn (hR.below hb)
  have hnn := valN_le g W n N
  obtain ⟨SA, sc, rfl, -, -⟩ := hG.1
  obtain ⟨FA, fc, rfl, -, -⟩ := hG.2.1
  obtain ⟨MA, mc, rfl, -, -⟩ := hG.2.2
  obtain ⟨ZA, zc, rfl, -, -, -⟩ := hW.1
  obtain ⟨WA, wq, rfl, -, -⟩ := hW.2
  obtain ⟨TA, tc, rfl, -, -, -⟩ := hv
  obtain ⟨RA, rc, rfl, hm63, -, -⟩ := hR
  generalize valN g W n N = nn at *
  generalize valsE g W n N = er at *
  generalize valueT g W n N id = p at *
  generalize allT g W n N m R = q at *
  clear hG hW
  obtain ⟨k0, k1, k2, k3, k4, k5⟩ := q10K_cells hx0.out
  go_enter Tryz.func3, Tryz.ntmps3
  go_wp2_with fail
  refine (hg1.out _ hx0.out.bel).mono ?_
  rintro e w1 ⟨⟨bb, rfl, hfew⟩, hb1⟩
  have hx1 := Lib.hid (hx0.out.step hb1)
  have hfew' := Lib.hid hfew
  clear hb1 hx0 hfew hg1 k0 k1 k2 k3 k4 k5
  cases bb with
  | true =>
    go_wp2_with (go_at_call 8; (with_reducible refine (hwk.out _).mono ?_); rintro e w2 ⟨rfl, hb2⟩; have hx2 := Lib.hid (hx1.out.step hb2))
    go_ret
    exact ⟨rfl, hx2.out.bel⟩
  | false =>
  have hfw := Lib.hid (hfew'.out rfl)
  obtain ⟨k0, k1, k2, k3, k4, k5⟩ := q10K_cells hx1.out
  clear hfew'
  go_wp2_with fail
  refine (hg2.out _ hx1.out.bel).mono ?_
  rintro e w2 ⟨rfl, hb2⟩
  have hx2 := Lib.hid (hx1.out.step hb2)
  have hsm := Lib.hid (fun h => great_small (W := W) h)
  clear hb2 hx1 hg2 k0 k1 k2 k3 k4 k5
  generalize greatWB W = bb at *
  cases bb with
  | true =>
    go_wp2_with (go_at_call 8; (with_reducible refine (hwk.out _).mono ?_); rintro e w3 ⟨rfl, hb3⟩; have hx3 := Lib.hid (hx2.out.step hb3))
    go_ret
    exact ⟨rfl, hx3.out.bel⟩
  | false =>
  have hfW := Lib.hid ((hsm.out rfl).few)
  obtain ⟨k0, k1, k2, k3, k4, k5⟩ := q10K_cells hx2.out
  clear hsm
  go_wp2_with fail
  refine (hg5.out _ hx2.out.bel).mono ?_
  rintro e w3 ⟨rfl, hb3⟩
  have hx3 := Lib.hid (hx2.out.step hb3)
  clear hb3 hx2 hg5 k0 k1 k2 k3 k4 k5
  by_cases hn3 : 300 < n
  · have d1 : decide (300 < n) = true := decide_eq_true hn3
    clear hn3
    go_wp2_with (go_at_call 8; (with_reducible refine (hwk.out _).mono ?_); rintro e w4 ⟨rfl, hb4⟩; have hx4 := Lib.hid (hx3.out.step hb4))
    go_ret
    exact ⟨rfl, hx4.out.bel⟩
  have d1 : decide (300 < n) = false := decide_eq_false hn3
  have hn : n ≤ 100000 := by omega
  by_cases hm3 : 100 < m
  · have d2 : decide ((100 : Int) < (m : Int)) = true := decide_eq_true (by omega)
    clear hm3 hn3
    go_wp2_with (go_at_call 8; (with_reducible refine (hwk.out _).mono ?_); rintro e w4 ⟨rfl, hb4⟩; have hx4 := Lib.hid (hx3.out.step hb4))
    go_ret
    exact ⟨rfl, hx4.out.bel⟩
  have d2 : decide ((100 : Int) < (m : Int)) = false := decide_eq_false (by omega)
  have hVp' := Lib.hid (hVp.out hfw.out hfW.out hn)
  have hVr' := Lib.hid (hVr.out hfW.out hn)
  have hOp' := Lib.hid (hOp.out hfw.out hfW.out hn)
  have hOr' := Lib.hid (hOr.out hfW.out hn)
  have hAp' := Lib.hid (hAp.out hfw.out hfW.out hn)
  have hAr' := Lib.hid (hAr.out hfW.out hn)
  clear hm3 hn3 hVp hVr hOp hOr hAp hAr
  obtain ⟨k0, k1, k2, k3, k4, k5⟩ := q10K_cells hx3.out
  go_wp2_with fail
  refine (hVp'.out _ hx3.out.bel).mono ?_
  unfold BothP
  rintro e w4 ⟨⟨vl, vo, rfl, hl, ho⟩, hb4⟩
  have hx4 := Lib.hid (hx3.out.step hb4)
  have hl' := Lib.hid hl
  have ho' := Lib.hid ho
  obtain ⟨LA, lc, rfl, -⟩ := hl
  obtain ⟨OA, oc, rfl, -⟩ := ho
  clear hb4 hx3 k0 k1 k2 k3 k4 k5 d1 d2
  obtain ⟨k0, k1, k2, k3, k4, k5⟩ := q10K_cells hx4.out
  go_wp2_with fail
  refine (hVr'.out _ hx4.out.bel).mono ?_
  unfold BothP
  rintro e w5 ⟨⟨vl2, vo2, rfl, hl2, ho2⟩, hb5⟩
  have hx5 := Lib.hid (hx4.out.step hb5)
  have hl5 := Lib.hid (hl'.out.below hb5)
  have ho5 := Lib.hid (ho'.out.below hb5)
  have hl2' := Lib.hid hl2
  have ho2' := Lib.hid ho2
  obtain ⟨LA2, lc2, rfl, -⟩ := hl2
  obtain ⟨OA2, oc2, rfl, -⟩ := ho2
  clear hb5 hx4 hl' ho' k0 k1 k2 k3 k4 k5
  have hSm := Lib.hid (Same10_yes _ _ nn _ _ w5 hl5.out hl2'.out (fun _ _ => rfl) (by omega))
  go_wp2_with fail
  refine hSm.out.mono ?_
  rintro e w6 ⟨rfl, hb6⟩
  have hx6 := Lib.hid (hx5.out.step hb6)
  have ho6 := Lib.hid (ho5.out.below hb6)
  have ho7 := Lib.hid (ho2'.out.below hb6)
  have d3 : (er != er) = false := by simp
  have d4 : ((nn : Int) != (nn : Int)) = false := by simp
  clear hb6 hx5 hSm hl5 ho5 hl2' ho2'
  go_wp2_with fail
  go_loopw [17] (fun i wr => ∃ j : Nat, j ≤ nn ∧ i = .int .i64 j ∧ Hid (Bx w (q10K w (.slice SA g.ns sc) (.slice FA g.nf fc) (.slice MA g.nm mc) (.slice ZA W.nz zc) (.slice WA W.nf wq) (.slice TA n tc)) wr ∧ Below w6.heap.size w6 wr)) (fun i _ => nn - (intOf i).toNat)
  case atStart => exact ⟨0, Nat.zero_le _, rfl, hx6.out, Below.refl _ _⟩
  case round =>
  clear hx6
  obtain ⟨j, hj, rfl, hx⟩ := hrel
  by_cases hlt : j < nn
  · have i1 : decide ((j : Int) < (nn : Int)) = true := decide_eq_true (by omega)
    obtain ⟨_, _, e1, hc1⟩ := ho6.out
    injection e1 with e11 _ e13
    subst e11; subst e13
    obtain ⟨b1, o1, rfl, hb1, hc1⟩ := hc1 (by omega)
    obtain ⟨_, _, e2, hc2⟩ := ho7.out
    injection e2 with e21 _ e23
    subst e21; subst e23
    obtain ⟨b2, o2, rfl, hb2, hc2⟩ := hc2 (by omega)
    have r1 := (hx.out.2.cell (p := ⟨b1, o1 + j, none⟩) hb1).trans (hc1 j hlt)
    have r2 := (hx.out.2.cell (p := ⟨b2, o2 + j, none⟩) hb2).trans (hc2 j hlt)
    have hj0 : (0 : Int) ≤ (j : Int) := by omega
    have hjn : (j : Int) < (nn : Int) := by omega
    dsimp only at r1 r2
    generalize (evF g W N n j).2 = ob at *
    have d5 : (ob != ob) = false := by simp
    have hx' := Lib.hid (fun q => (⟨hx.out.1.drewN q, hx.out.2.trans (below_drewN (Below.refl _ _) q)⟩ : Bx w (q10K w (.slice SA g.ns sc) (.slice FA g.nf fc) (.slice MA g.nm mc) (.slice ZA W.nz zc) (.slice WA W.nf wq) (.slice TA n tc)) (wr.drewN q) ∧ Below w6.heap.size w6 (wr.drewN q)))
    clear hc1 hc2
    go_wp2_with fail
    go_quiet (fail)
    go_wp2_with fail
    go_roundw
    case rel => exact ⟨j + 1, by omega, by go_num, hx'.out _⟩
    case measure => simp [intOf]; omega
  have i1 : decide ((j : Int) < (nn : Int)) = false := decide_eq_false (by omega)
  have hx7 := Lib.hid hx.out.1
  clear hx ho6 ho7
  obtain ⟨k0, k1, k2, k3, k4, k5⟩ := q10K_cells hx7.out
  go_wp2_with fail
  refine (hOp'.out _ hx7.out.bel).mono ?_
  rintro e w8 ⟨rfl, hb8⟩
  have hx8 := Lib.hid (hx7.out.step hb8)
  clear hb8 hx7 k0 k1 k2 k3 k4 k5
  obtain ⟨k0, k1, k2, k3, k4, k5⟩ := q10K_cells hx8.out
  go_wp2_with fail
  refine (hOr'.out _ hx8.out.bel).mono ?_
  rintro e w9 ⟨rfl, hb9⟩
  have hx9 := Lib.hid (hx8.out.step hb9)
  clear hb9 hx8 k0 k1 k2 k3 k4 k5
  obtain ⟨k0, k1, k2, k3, k4, k5⟩ := q10K_cells hx9.out
  go_wp2_with fail
  refine (hAp'.out _ hx9.out.bel).mono ?_
  rintro e w10 ⟨rfl, hb10⟩
  have hx10 := Lib.hid (hx9.out.step hb10)
  clear hb10 hx9 k0 k1 k2 k3 k4 k5
  obtain ⟨k0, k1, k2, k3, k4, k5⟩ := q10K_cells hx10.out
  go_wp2_with fail
  refine (hAr'.out _ hx10.out.bel).mono ?_
  rintro e w11 ⟨rfl, hb11⟩
  have hx11 := Lib.hid (hx10.out.step hb11)
  clear hb11 hx10 k0 k1 k2 k3 k4 k5
  have f1 : (p.1 == p.1) = true := by simp
  have f2 : (p.2 == p.2) = true := by simp
  have f3 : (q.1 == q.1) = true := by simp
  have f4 : (q.2 == q.2) = true := by simp
  go_wp2_with (go_at_call 8; (with_reducible refine (hwk.out _).mono ?_); rintro e w12 ⟨rfl, hb12⟩; have hx12 := Lib.hid (hx11.out.step hb12))
  go_ret
  exact ⟨rfl, hx12.out.bel⟩
end Go.Proofs.YtlhnffmbjejphaaGreat
