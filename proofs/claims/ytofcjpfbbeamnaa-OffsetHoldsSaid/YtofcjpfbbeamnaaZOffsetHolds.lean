/- The law OffsetHolds: the walk. -/
import Derived.Test.YtofcjpfbbeamnaaZOffH
import Derived.Test.YtofcjpfbbeamnaaZOffDOffF
import Derived.Test.YtofcjpfbbeamnaaZEvAt
import Derived.Test.YtofcjpfbbeamnaaZR10ValsR10ValsB
import Derived.Test.YtofcjpfbbeamnaaZGreatG
import Derived.Test.YtofcjpfbbeamnaaZGreatR9
import Derived.Test.YtofcjpfbbeamnaaZGreat5TermD
namespace Go.Proofs.Ytofcjpfbbeamnaa
open Go.RowKit
set_option maxRecDepth 1000000

theorem LeT.size1 {n : Nat} {N : Nat → Nd} {a b c most : Int} {m : Nat} {M : Nat → Nd} {id er : Int} {is : Bool} (h : LeT n N a b c most m M id is er) : m ≤ n + 1 := by
  cases h with
  | err => omega
  | tru => omega
  | fls _ _ _ _ _ _ _ _ hp => cases hp <;> omega
  | diff _ _ _ _ _ _ _ _ _ hp => cases hp <;> omega
set_option maxHeartbeats 16000000 in
theorem OffsetHolds_any (sv fv mv zv wv tv : Value) (g : Sg) (W : Wd) (n : Nat) (N : Nat → Nd) (a b c : Int) (w : World) (hG : SgAt w sv fv mv g) (hW : WdAt w zv wv W) (hv : NdsAt w tv n N) (ha : R64 a) (hb : R64 b) (hc : R64 c) :
    Calls Try.prog 7 #[.agg #[sv, fv, mv], .agg #[zv, wv], .agg #[tv], .int .i64 a, .int .i64 b, .int .i64 c] w fun e w' => e = .returned (.bool true) ∧ Below w.heap.size w w' := by
  have hwk := Lib.hid wakes11_any
  have hx0 := Lib.hid (q10K_bx w sv fv mv zv wv tv)
  have hg5 := Lib.hid fun (x : World) (hb : Below w.heap.size w x) => Great5_any tv n N x (hv.below hb)
  have hg1 := Lib.hid fun (x : World) (hb : Below w.heap.size w x) => Great_any sv fv mv g x (hG.below hb)
  have hg2 := Lib.hid fun (x : World) (hb : Below w.heap.size w x) => R9Great_any zv wv W x (hW.below hb)
  have hLe := Lib.hid fun (hn : n ≤ 300) (x : World) (hbx : Below w.heap.size w x) => Le_any tv n N a b c 1000 x (hv.below hbx) (by omega) ha hb hc ⟨by decide, by decide⟩
  have hVr := Lib.hid fun (hw : FewW W) (tv' : Value) (m : Nat) (M : Nat → Nd) (hm : m ≤ 301) (x : World) (hb : Below w.heap.size w x) (hv' : NdsAt x tv' m M) => R10Values_any sv fv mv zv wv tv' g W m M x (hG.below hb) (hW.below hb) hw hv' (by omega)
  have hAt := Lib.hid fun (x y z : Int) (v : World) => R10AtMost_any x y z v
  obtain ⟨SA, sc, rfl, -, -⟩ := hG.1
  obtain ⟨FA, fc, rfl, -, -⟩ := hG.2.1
  obtain ⟨MA, mc, rfl, -, -⟩ := hG.2.2
  obtain ⟨ZA, zc, rfl, -, -, -⟩ := hW.1
  obtain ⟨WA, wq, rfl, -, -⟩ := hW.2
  obtain ⟨TA, tc, rfl, -, -, -⟩ := hv
  clear hG hW
  obtain ⟨k0, k1, k2, k3, k4, k5⟩ := q10K_cells hx0.out
  go_enter Try.func7, Try.ntmps7
  go_wp2_with fail
  refine (hg5.out _ hx0.out.bel).mono ?_
  rintro e w1 ⟨rfl, hb1⟩
  have hx1 := Lib.hid (hx0.out.step hb1)
  clear hb1 hx0 hg5 k0 k1 k2 k3 k4 k5
  by_cases hn3 : 300 < n
  · have d1 : decide (300 < n) = true := decide_eq_true hn3
    clear hn3
    go_wp2_with (go_at_call 26; (with_reducible refine (hwk.out _).mono ?_); rintro e w2 ⟨rfl, hb2⟩; have hx2 := Lib.hid (hx1.out.step hb2))
    go_ret
    exact ⟨rfl, hx2.out.bel⟩
  have d1 : decide (300 < n) = false := decide_eq_false hn3
  have hn : n ≤ 300 := by omega
  have hLe' := Lib.hid (hLe.out hn)
  have hn' := Lib.hid hn
  clear hn3 hLe
  obtain ⟨k0, k1, k2, k3, k4, k5⟩ := q10K_cells hx1.out
  go_wp2_with fail
  refine (hg1.out _ hx1.out.bel).mono ?_
  rintro e w2 ⟨⟨bb, rfl, hfew⟩, hb2⟩
  have hx2 := Lib.hid (hx1.out.step hb2)
  clear hb2 hx1 hfew hg1 d1 k0 k1 k2 k3 k4 k5
  cases bb with
  | true =>
    go_wp2_with (go_at_call 26; (with_reducible refine (hwk.out _).mono ?_); rintro e w3 ⟨rfl, hb3⟩; have hx3 := Lib.hid (hx2.out.step hb3))
    go_ret
    exact ⟨rfl, hx3.out.bel⟩
  | false =>
  obtain ⟨k0, k1, k2, k3, k4, k5⟩ := q10K_cells hx2.out
  go_wp2_with fail
  refine (hg2.out _ hx2.out.bel).mono ?_
  rintro e w3 ⟨⟨bb, rfl, hfw⟩, hb3⟩
  have hx3 := Lib.hid (hx2.out.step hb3)
  have hsm := Lib.hid hfw
  clear hb3 hx2 hg2 hfw k0 k1 k2 k3 k4 k5
  cases bb with
  | true =>
    go_wp2_with (go_at_call 26; (with_reducible refine (hwk.out _).mono ?_); rintro e w4 ⟨rfl, hb4⟩; have hx4 := Lib.hid (hx3.out.step hb4))
    go_ret
    exact ⟨rfl, hx4.out.bel⟩
  | false =>
  have hVr' := Lib.hid (hVr.out (hsm.out rfl))
  obtain ⟨k0, k1, k2, k3, k4, k5⟩ := q10K_cells hx3.out
  clear hsm hVr
  go_wp2_with fail
  refine (hLe'.out _ hx3.out.bel).mono ?_
  unfold LePost
  rintro e w4 ⟨v1, m1, M1, id1, is1, e1, rfl, hL, hN1, hb4⟩
  have hx4 := Lib.hid (hx3.out.step hb4)
  have hm1 : Hid (m1 ≤ 301) := by have := hL.size1; have := hn'.out; unfold Hid; omega
  have hN1' := Lib.hid hN1
  obtain ⟨A1, c1, rfl, -, -, -⟩ := hN1
  have hx5 := Lib.hid (hx4.out.one (.slice A1 m1 c1) 24)
  have hNu := Lib.hid (hN1'.out.alloc (.cells #[.slice A1 m1 c1] 24))
  have hL' := Lib.hid hL
  clear hb4 hx3 hLe' hN1' hL k0 k1 k2 k3 k4 k5
  by_cases he1 : e1 = 0
  case neg =>
    have d2 : (e1 != 0) = true := by simpa using he1
    clear he1
    go_wp2_with (go_at_call 26; (with_reducible refine (hwk.out _).mono ?_); rintro e w6 ⟨rfl, hb6⟩; have hx6 := Lib.hid (hx5.out.step hb6))
    go_ret
    exact ⟨rfl, hx6.out.bel⟩
  subst he1
  obtain ⟨⟨a0, a1⟩, ⟨b0, b1⟩, ⟨m0, -⟩, ⟨i0, i1⟩⟩ := hL'.out.ins rfl
  have da0 : decide (a < 0) = false := decide_eq_false (by omega)
  have db0 : decide (b < 0) = false := decide_eq_false (by omega)
  have da1 : decide ((n : Int) ≤ a) = false := decide_eq_false (by omega)
  have db1 : decide ((n : Int) ≤ b) = false := decide_eq_false (by omega)
  clear hx4
  obtain ⟨⟨u0, uz⟩, hcells⟩ := hx5.out.cells
  obtain ⟨k0, k1, k2, k3, k4, k5⟩ := q10K_cells ⟨hcells, hx5.out.bel⟩
  clear hcells
  generalize hW5 : w4.alloc (.cells #[.slice A1 m1 c1] 24) = w5 at *
  go_wp2_with fail
  refine (hVr'.out _ m1 M1 hm1.out _ hx5.out.bel hNu.out).mono ?_
  unfold RVals10
  rintro e w6 ⟨⟨vl, vo, rfl, hok, hbad⟩, hb6⟩
  have hx6 := Lib.hid (hx5.out.step hb6)
  clear hW5 hb6 hx5 hVr' hNu da0 db0 da1 db1 k0 k1 k2 k3 k4 k5 u0 uz
  by_cases he : valsE g W m1 M1 = 0
  case neg =>
    have d3 : (valsE g W m1 M1 != 0) = true := by simpa using he
    obtain ⟨rfl, rfl⟩ := hbad he
    clear hok hbad he
    go_wp2_with (go_at_call 26; (with_reducible refine (hwk.out _).mono ?_); rintro e w7 ⟨rfl, hb7⟩; have hx7 := Lib.hid (hx6.out.step hb7))
    go_ret
    exact ⟨rfl, hx7.out.bel⟩
  obtain ⟨hl, ho⟩ := hok he
  have hLaw := Lib.hid (holds_law hL'.out rfl (valsE_ok he))
  rw [he]
  clear hok hbad he hL'
  obtain ⟨LA, lc, rfl, -, -, hl⟩ := hl
  obtain ⟨OA, oc, rfl, ho⟩ := ho
  obtain ⟨lb, lo, rfl, hlb, hl⟩ := hl (by omega)
  obtain ⟨ob, oo, rfl, hob, ho⟩ := ho (by omega)
  have la := hl a.toNat (by omega)
  have lb' := hl b.toNat (by omega)
  have li := hl id1.toNat (by omega)
  have oa := ho a.toNat (by omega)
  have ob' := ho b.toNat (by omega)
  have oi := ho id1.toNat (by omega)
  dsimp only at la lb' li oa ob' oi
  clear hl ho
  have a2 : a < (m1 : Int) := by omega
  have b2 : b < (m1 : Int) := by omega
  have da0 : decide (id1 < 0) = false := decide_eq_false (by omega)
  have da1 : decide ((m1 : Int) ≤ id1) = false := decide_eq_false (by omega)
  have da2 : decide ((m1 : Int) ≤ a) = false := decide_eq_false (by omega)
  have da3 : decide ((m1 : Int) ≤ b) = false := decide_eq_false (by omega)
  clear hm1 hn' hn a1 b1 m0
  generalize (evF g W M1 m1 a.toNat).2 = xa at *
  generalize (evF g W M1 m1 b.toNat).2 = xb at *
  generalize (evF g W M1 m1 id1.toNat).2 = xi at *
  generalize (evF g W M1 m1 a.toNat).1 = va at *
  generalize (evF g W M1 m1 b.toNat).1 = vb at *
  generalize (evF g W M1 m1 id1.toNat).1 = vi at *
  cases xa with
  | true =>
    go_wp2_with (go_at_call 26; (with_reducible refine (hwk.out _).mono ?_); rintro e w7 ⟨rfl, hb7⟩; have hx7 := Lib.hid (hx6.out.step hb7))
    go_ret
    exact ⟨rfl, hx7.out.bel⟩
  | false =>
  cases xb with
  | true =>
    go_wp2_with (go_at_call 26; (with_reducible refine (hwk.out _).mono ?_); rintro e w7 ⟨rfl, hb7⟩; have hx7 := Lib.hid (hx6.out.step hb7))
    go_ret
    exact ⟨rfl, hx7.out.bel⟩
  | false =>
  cases xi with
  | true =>
    go_wp2_with (go_at_call 26; (with_reducible refine (hwk.out _).mono ?_); rintro e w7 ⟨rfl, hb7⟩; have hx7 := Lib.hid (hx6.out.step hb7))
    go_ret
    exact ⟨rfl, hx7.out.bel⟩
  | false =>
  have hlaw : (vi == 1) = atMB va vb c := hLaw.out rfl rfl rfl
  have hAt' := Lib.hid fun (v : World) => hAt.out va vb c v
  have hlw : ((vi == 1) == atMB va vb c) = true := by rw [hlaw]; simp
  generalize atMB va vb c = at_ at *
  subst hlaw
  have hcls : Hid (∀ x, (Bx w [] x ∧ Below w6.heap.size w6 x) → x.cell? ⟨lb, lo + id1.toNat, none⟩ = some (.int .i64 vi) ∧ x.cell? ⟨lb, lo + a.toNat, none⟩ = some (.int .i64 va) ∧ x.cell? ⟨lb, lo + b.toNat, none⟩ = some (.int .i64 vb)) := fun x hx =>
    ⟨(hx.2.cell (p := ⟨lb, lo + id1.toNat, none⟩) hlb).trans li, (hx.2.cell (p := ⟨lb, lo + a.toNat, none⟩) hlb).trans la, (hx.2.cell (p := ⟨lb, lo + b.toNat, none⟩) hlb).trans lb'⟩
  have hstep := Lib.hid fun (x y : World) (hx : Bx w [] x ∧ Below w6.heap.size w6 x) (hb : Below x.heap.size x y) => (⟨hx.1.step hb, hx.2.trans (hb.mono hx.2.size)⟩ : Bx w [] y ∧ Below w6.heap.size w6 y)
  have hin : Bx w [] w6.drew ∧ Below w6.heap.size w6 w6.drew := ⟨⟨trivial, hx6.out.bel.drew⟩, (Below.refl _ _).drew⟩
  clear hLaw hAt
  go_upto_region 11 with fail
  refine region_cls (fun x => Bx w [] x ∧ Below w6.heap.size w6 x) (by kernel_rfl) (by kernel_rfl) hin ?_
  clear hin hx6 la lb' li oa ob' oi
  repeat (first
    | go_big_quiet_skip
    | (go_big_quiet_want; first
      | (go_big_quiet_op; go_big_quiet_on)
      | (unfold Oper.quiet; apply Exists.intro; refine ⟨fun x hx => ?_, ?_⟩; (obtain ⟨c0, c1, c2⟩ := hcls.out x hx; unfold Oper.quietAt; first
          | (go_simp; exact ⟨rfl, rfl⟩)
          | (go_simp; exact rfl)
          | (go_simp; done)
          | (go_simp; go_at_call 29; refine (hAt'.out x).mono ?_; rintro e w' ⟨rfl, rfl⟩; exact ⟨rfl, hx⟩)
          | (go_simp; go_at_call 26; refine (hwk.out x).mono ?_; rintro e w' ⟨rfl, hb'⟩; exact ⟨rfl, hstep.out _ _ hx hb'⟩)
          | fail); go_simp; go_big_quiet_on)))
  refine wpQuiet_nil ?_
  rintro w7 hx7
  go_wp2_with fail
  go_ret
  exact ⟨rfl, hx7.1.bel⟩
end Go.Proofs.Ytofcjpfbbeamnaa
