/- gantryref12.Of: up to the walks. -/
import Derived.Test.YtecmoahadckomaaZR12KR12L
import Derived.Test.YtecmoahadckomaaZTermCTermDaRCheck
import Derived.Deep.RegionLawGrows
import Derived.Test.YtecmoahadckomaaZMkTMkXMoA
import Derived.Test.YtecmoahadckomaaZMkVMkWk
import Derived.Test.YtecmoahadckomaaZMkUR12Is
import Derived.Test.YtecmoahadckomaaZSame12
import Derived.Test.YtecmoahadckomaaZGreat5
namespace Go.Proofs.Ytecmoahadckomaa
open Go.RowKit Go.Maps
set_option maxRecDepth 1000000

theorem TwoB.drewN {w x : World} {u v : Value} (h : TwoB w u v x) (d : Nat) : TwoB w u v (x.drewN d) := h.step (below_drewN (Below.refl _ _) d)
/-- While the images are laid: -1 each. -/
structure MinI (w : World) (u tv : Value) (g : Nat) (A : Option Addr) (c : Nat) (k : Nat) (x : World) : Prop where
  bx : TwoB w u tv x
  lt : w.heap.size + 1 < g
  tab : x.cell? ⟨g, 0, none⟩ = some (.slice A 2 c)
  nds : NdsAt x (.slice A 2 c) 2 newN
  fz : ∀ i, x.frozen? ⟨g, i, none⟩ = false
  gl : g < x.heap.size
  row : ∃ z, x.cell? ⟨g, 1, none⟩ = some z ∧ OwnI x (g + 1) z ((List.range k).map fun _ => (-1 : Int))
theorem MinI.start {w x : World} {u tv : Value} {A : Option Addr} {c : Nat} (h : TwoB w u tv x) (hN : NdsAt x (.slice A 2 c) 2 newN) : MinI w u tv x.heap.size A c 0 (x.alloc (.cells #[.slice A 2 c, .slice none 0 0] 56)) := by
  have hr := World.rowIs_alloc x #[.slice A 2 c, .slice none 0 0] 56 (fun i => if i = 0 then .slice A 2 c else .slice none 0 0) (fun i hi => by
    have hi : i < 2 := hi
    obtain rfl | rfl : i = 0 ∨ i = 1 := by omega
    all_goals rfl)
  exact ⟨h.skip _, h.lt, hr.cell (i := 0) (by show (0 : Nat) < 2; decide), hN.alloc _, fun i => hr.frozen i, by simp, _, hr.cell (i := 1) (by show (1 : Nat) < 2; decide), OwnI.nil _ _⟩
theorem OwnI.slice {w : World} {base : Nat} {v : Value} {xs : List Int} (h : OwnI w base v xs) : ∀ k x, v ≠ .int k x := by
  rcases h.1.2 with ⟨rfl, _⟩ | ⟨g', cap, cur, rfl, hbg, _⟩
  · intro k x e; cases e
  · intro k x e; cases e
theorem TwoB.farO {w x : World} {u v : Value} (h : TwoB w u v x) {g o : Nat} (hg : w.heap.size + 1 < g) (u' : Value) : TwoB w u v (x.setCell ⟨g, o, none⟩ u') :=
  ⟨(World.cell?_setCell_far _ _ _ _ (by show g ≠ w.heap.size + 1; omega)).trans h.r, (World.cell?_setCell_far _ _ _ _ (by show g ≠ w.heap.size; omega)).trans h.t, by rw [World.frozen?_setCell]; exact h.fr, by rw [World.frozen?_setCell]; exact h.ft, h.bel.setCell (p := ⟨g, o, none⟩) (by show _ ≤ g; omega) _, by simpa using h.lt⟩
theorem MinI.grown {w x y : World} {u tv : Value} {g : Nat} {A : Option Addr} {c k : Nat} {z v' : Value} (h : MinI w u tv g A c k x) (hz0 : x.cell? ⟨g, 1, none⟩ = some z) (hz : OwnI x (g + 1) z ((List.range k).map fun _ => (-1 : Int))) (hg : x.grownBy y z.ownBlock) (hO : OwnI y (g + 1) v' ((List.range k).map (fun _ => (-1 : Int)) ++ [-1])) :
    MinI w u tv g A c (k + 1) (y.setCell ⟨g, 1, none⟩ v') ∧ y.cell? ⟨g, 1, none⟩ = some z ∧ y.frozen? ⟨g, 1, none⟩ = false := by
  have hlt := h.lt
  have hne : ∀ b, b < g + 1 → some b ≠ z.ownBlock := fun b hb => hz.own_ne hb
  have bg := hg.block g h.gl (hne g (by omega))
  have c1 : y.cell? ⟨g, 1, none⟩ = some z := (World.cell?_of_block (w := x) (a := ⟨g, 1, none⟩) bg).trans hz0
  have f1 : ∀ i, y.frozen? ⟨g, i, none⟩ = false := fun i => (World.frozen?_of_block (w := x) (a := ⟨g, i, none⟩) bg).trans (h.fz i)
  have bl : Below (g + 1) x y := ⟨hg.os, hg.tape, hg.output, hg.size, fun b hb => hg.block b (by have := h.gl; omega) (hne b hb)⟩
  have b0 := bl.block (w.heap.size + 1) (by omega)
  have b1 := bl.block w.heap.size (by omega)
  have ht : TwoB w u tv y := ⟨(World.cell?_of_block (w := x) (a := ⟨w.heap.size + 1, 0, none⟩) b0).trans h.bx.r, (World.cell?_of_block (w := x) (a := ⟨w.heap.size, 0, none⟩) b1).trans h.bx.t, (World.frozen?_of_block (w := x) (a := ⟨w.heap.size + 1, 0, none⟩) b0).trans h.bx.fr, (World.frozen?_of_block (w := x) (a := ⟨w.heap.size, 0, none⟩) b1).trans h.bx.ft,
    h.bx.bel.trans (bl.mono (by omega)), Nat.lt_of_lt_of_le h.bx.lt hg.size⟩
  have hnd : NdsAt y (.slice A 2 c) 2 newN := by
    have hN := h.nds
    obtain ⟨A', c', e, hn, hr, hc⟩ := h.nds
    injection e with e1 _ e3
    subst e1; subst e3
    refine ⟨A, c, rfl, hn, hr, fun hp => ?_⟩
    obtain ⟨b, o, rfl, hb, hc⟩ := hc hp
    have hx := hz.ne hN hp
    exact ⟨b, o, rfl, by have := hg.size; omega, fun i hi => (hc i hi).keep fun j => World.cell?_of_block (w := x) (hg.block b hb (fun e => hx e.symm))⟩
  have hO' : OwnI (y.setCell ⟨g, 1, none⟩ v') (g + 1) v' ((List.range (k + 1)).map fun _ => (-1 : Int)) := by
    have := hO.but ((But.refl [g] y.heap.size y).set (g := g) (.inl (by simp)) 1 v') (fun b hb => by have := List.mem_singleton.1 hb; omega)
    rw [List.range_succ, List.map_append]
    exact this
  exact ⟨⟨ht.farO hlt _, hlt, (World.cell?_setCell_other _ _ _ _ (fun e => by injection e with _ e; cases e)).trans ((World.cell?_of_block (w := x) (a := ⟨g, 0, none⟩) bg).trans h.tab), hnd.setBox c1 hz.slice _, fun i => by rw [World.frozen?_setCell]; exact f1 i, by have := hg.size; have := h.gl; simp; omega, v', World.cell?_setCell_same' _ _ _ (by rw [c1]; rfl), hO'⟩, c1, f1 1⟩
theorem MinI.below {w x y : World} {u tv : Value} {g : Nat} {A : Option Addr} {c k : Nat} (h : MinI w u tv g A c k x) (hb : Below x.heap.size x y) : MinI w u tv g A c k y := by
  obtain ⟨z, hz, hO⟩ := h.row
  exact ⟨h.bx.step hb, h.lt, (hb.cell (p := ⟨g, 0, none⟩) h.gl).trans h.tab, h.nds.below hb, fun i => (hb.frozen (p := ⟨g, i, none⟩) h.gl).trans (h.fz i), Nat.lt_of_lt_of_le h.gl hb.size, z, (hb.cell (p := ⟨g, 1, none⟩) h.gl).trans hz, hO.but (But.of hb []) (fun y hy => by cases hy)⟩
theorem TwoB.but {w x y : World} {u v : Value} {S : List Nat} (h : TwoB w u v x) (hb : But S x.heap.size x y) (hS : ∀ b ∈ S, w.heap.size + 1 < b) : TwoB w u v y := by
  have hl := h.lt
  have n1 : w.heap.size + 1 ∉ S := fun h => by have := hS _ h; omega
  have n0 : w.heap.size ∉ S := fun h => by have := hS _ h; omega
  have b1 := hb.block (w.heap.size + 1) h.lt n1
  have b0 := hb.block w.heap.size (by omega) n0
  exact ⟨(World.cell?_of_block (w := x) (a := ⟨w.heap.size + 1, 0, none⟩) b1).trans h.r, (World.cell?_of_block (w := x) (a := ⟨w.heap.size, 0, none⟩) b0).trans h.t, (World.frozen?_of_block (w := x) (a := ⟨w.heap.size + 1, 0, none⟩) b1).trans h.fr, (World.frozen?_of_block (w := x) (a := ⟨w.heap.size, 0, none⟩) b0).trans h.ft,
    h.bel.trans (hb.belowOf (B' := w.heap.size) h.bel.size (fun b hb => by have := hS b hb; omega)), Nat.lt_of_lt_of_le h.lt hb.size⟩
/-- The work with no image yet. -/
theorem MinI.work {w x : World} {u tv : Value} {g : Nat} {A : Option Addr} {c n : Nat} (h : MinI w u tv g A c n x) (hn : 0 < n) : ∃ ib ic, g < ib ∧ WkS x g ib ic n s012 := by
  obtain ⟨z, hz, hO⟩ := h.row
  obtain ⟨⟨hl, h2⟩, hnum⟩ := hO
  have hlen : ((List.range n).map fun _ => (-1 : Int)).length = n := by simp
  rcases h2 with ⟨_, h0⟩ | ⟨ib, cap, cur, rfl, hbg, hg, hnc, hcm, hcs, htk⟩
  · rw [hlen] at h0; omega
  · rw [hlen] at hz hnc htk hnum
    refine ⟨ib, cap, by omega, h.gl, by omega, ⟨A, c, h.tab, h.nds⟩, hz, h.fz, (Array.getElem?_eq_some_iff.1 hg).1, fun i hi => ?_, fun i => ?_, hnum ib rfl⟩
    · rw [cell_of_row _ _ _ _ _ _ hg]
      have e : cur.toList[i]? = some (.int .i64 (-1)) := by
        have h1 : (cur.toList.take (n * 1))[i]? = some (Value.int .i64 (-1)) := by
          rw [htk]
          simp [hi]
        rw [List.getElem?_take, if_pos (by omega)] at h1
        exact h1
      show cur[i]? = some (Value.int .i64 (-1))
      simpa using e
    · exact frozen_of_row x ib i cur _ hg
/-- What holds between one root and the next. -/
def OfI12 (N : Nat → Nd) (most : Int) (n : Nat) (R : Nat → Int) (g ib ic : Nat) (W0 : World) (z : Value) (k : Nat) (wr : World) : Prop :=
  ∃ s1 X, RootsP (WalkP N most n) R k s012 s1 X ∧ s1.1.e = 0 ∧ OwnI wr W0.heap.size z ((List.range k).map X) ∧ WkS wr g ib ic n s1 ∧ InvK n s1 ∧ (∀ i, i < k → 0 ≤ X i ∧ X i < s1.1.n) ∧ But [g, ib] W0.heap.size W0 wr
end Go.Proofs.Ytecmoahadckomaa

namespace Go.Proofs.Ytecmoahadckomaa
open Go.RowKit Go.Maps
set_option maxRecDepth 1000000
set_option maxHeartbeats 32000000 in
theorem R12Of_any (v u : Value) (n m : Nat) (N : Nat → Nd) (R : Nat → Int) (most : Int) (w : World) (hv : NdsAt w v n N) (hu : IntsAt w u m R) (hn : n ≤ 3000) (hm : m ≤ 1000) (hmo : R64 most) :
    Calls Try.prog 9 #[.agg #[v], u, .int .i64 most] w (Of12Post n N m R most w) := by
  have hv' := Lib.hid hv
  have hu' := Lib.hid hu
  have hNR := Lib.hid hv.ranges
  obtain ⟨A, c, rfl, -, -, hnd⟩ := hv
  have hnd' := Lib.hid hnd
  obtain ⟨U, cu, rfl, -, -, -⟩ := hu
  have hx0 := Lib.hid (TwoB.start w A n c)
  have r0 := hx0.out.r
  have q0 := hx0.out.t
  have f0 := hx0.out.fr
  have hCk := Lib.hid (RCheck_any (.slice A n c) n N _ (hv'.out.below hx0.out.bel) (by omega))
  clear hnd
  go_enter Try.func9, Try.ntmps9
  go_upto_region 1 with fail
  generalize hW1 : (w.alloc (.cells #[.slice A n c] 24)).alloc (.cells #[.slice none 0 0] 24) = w0 at *
  clear hW1
  go_wp2_with fail
  with_reducible refine hCk.out.mono ?_
  rintro e w1 ⟨rfl, hb1⟩
  have hx1 := Lib.hid (hx0.out.step hb1)
  clear hb1 hCk r0 q0 f0 hx0
  have r1 := hx1.out.r
  have q1 := hx1.out.t
  have f1 := hx1.out.fr
  rcases Classical.em (CheckP n N) with hch | hch
  case inr =>
    have hck : (checkT n N != 0) = true := by rw [check_not hch]; rfl
    have hR := Lib.hid (Of12.arg (most := most) (m := m) (R := R) (fun h => hch h.1) N R)
    go_wp2_with fail
    refine bodyPost_ret (results_of12 rfl _ _ (w.heap.size + 1) (.slice none 0 0) (.slice none 0 0) (.int .i64 2) rfl (hx1.out.set1 _).r rfl rfl) rfl ⟨_, _, 0, N, 0, R, 2, rfl, hR.out, NdsAt.nil _ _, IntsAt.nilI _ _, (hx1.out.set1 _).bel⟩
  have hck : (checkT n N != 0) = false := by rw [check_yes hch]; rfl
  have hch' := Lib.hid hch
  have h2 := Lib.hid hch.two
  clear hch
  go_wp2_with fail
  clear r1 q1 f1 hck
  go_loopw [7, 8, 9] (fun za zb i wr => ∃ j : Nat, j ≤ m ∧ i = .int .i64 j ∧ za = .slice none 0 0 ∧ zb = .int .i64 0 ∧ Hid (∀ i, i < j → 0 ≤ R i ∧ R i < n) ∧ Hid (TwoB w (.slice none 0 0) (.slice A n c) wr)) (fun _ _ i _ => m - (intOf i).toNat)
  case atStart => exact ⟨0, Nat.zero_le _, rfl, rfl, rfl, fun i hi => absurd hi (Nat.not_lt_zero i), hx1.out⟩
  case round =>
  clear hx1
  obtain ⟨j, hj, rfl, rfl, rfl, hin, hx1⟩ := hrel
  have r1 := hx1.out.r
  have q1 := hx1.out.t
  have f1 := hx1.out.fr
  by_cases hlt : j < m
  · have i1 : decide ((j : Int) < (m : Int)) = true := decide_eq_true (by omega)
    obtain ⟨_, _, e1, _, hRR, hcu⟩ := hu'.out
    injection e1 with e1 _ e3
    subst e1; subst e3
    obtain ⟨ub, uo, rfl, hub, hcu⟩ := hcu (by omega)
    have rj := (hx1.out.bel.cell (p := ⟨ub, uo + j, none⟩) hub).trans (hcu j hlt)
    have hj0 : (0 : Int) ≤ (j : Int) := by omega
    have hjm : (j : Int) < (m : Int) := by omega
    clear hcu hRR
    by_cases hr0 : R j < 0
    · have d1 : decide (R j < 0) = true := decide_eq_true hr0
      have hR := Lib.hid (Of12.arg (n := n) (N := N) (most := most) (m := m) (R := R) (fun h => by have := h.2 j hlt; omega) N R)
      clear hr0
      go_wp2_with fail
      go_quiet (fail)
      rename_i nq
      have hx2 := Lib.hid (hx1.out.drewN nq)
      clear r1 q1 f1
      have r1 := hx2.out.r
      have f1 := hx2.out.fr
      go_wp2_with fail
      refine bodyPost_ret (results_of12 rfl _ _ (w.heap.size + 1) (.slice none 0 0) (.slice none 0 0) (.int .i64 2) rfl (hx2.out.set1 _).r rfl rfl) rfl ⟨_, _, 0, N, 0, R, 2, rfl, hR.out, NdsAt.nil _ _, IntsAt.nilI _ _, (hx2.out.set1 _).bel⟩
    have d1 : decide (R j < 0) = false := decide_eq_false hr0
    by_cases hr1 : (n : Int) ≤ R j
    · have d2 : decide ((n : Int) ≤ R j) = true := decide_eq_true hr1
      have hR := Lib.hid (Of12.arg (n := n) (N := N) (most := most) (m := m) (R := R) (fun h => by have := h.2 j hlt; omega) N R)
      clear hr0 hr1
      go_wp2_with fail
      go_quiet (fail)
      rename_i nq
      have hx2 := Lib.hid (hx1.out.drewN nq)
      clear r1 q1 f1
      have r1 := hx2.out.r
      have f1 := hx2.out.fr
      go_wp2_with fail
      refine bodyPost_ret (results_of12 rfl _ _ (w.heap.size + 1) (.slice none 0 0) (.slice none 0 0) (.int .i64 2) rfl (hx2.out.set1 _).r rfl rfl) rfl ⟨_, _, 0, N, 0, R, 2, rfl, hR.out, NdsAt.nil _ _, IntsAt.nilI _ _, (hx2.out.set1 _).bel⟩
    have d2 : decide ((n : Int) ≤ R j) = false := decide_eq_false hr1
    have hnx : Hid (∀ i, i < j + 1 → 0 ≤ R i ∧ R i < n) := fun i hi => by
      by_cases e : i = j
      · subst e; omega
      · exact hin.out i (by omega)
    clear hr0 hr1
    go_wp2_with fail
    go_quiet (fail)
    rename_i nq
    have hx2 := Lib.hid (hx1.out.drewN nq)
    go_wp2_with fail
    go_roundw
    case rel => exact ⟨j + 1, by omega, by go_num, rfl, rfl, hnx, hx2.out⟩
    case measure => simp [intOf]; omega
  have i1 : decide ((j : Int) < (m : Int)) = false := decide_eq_false (by omega)
  obtain rfl : j = m := by omega
  have hFi := Lib.hid (R12fit_any (.slice A n c) n N wr (hv'.out.below hx1.out.bel) hch'.out (by omega))
  clear hlt hj
  go_wp2_with fail
  with_reducible refine hFi.out.mono ?_
  rintro e w2 ⟨rfl, hb2⟩
  have hx2 := Lib.hid (hx1.out.step hb2)
  clear hb2 hFi r1 q1 f1 hx1
  have r2 := hx2.out.r
  have q2 := hx2.out.t
  have f2 := hx2.out.fr
  by_cases hfit : fitsB n N = true
  case neg =>
    have hfit : fitsB n N = false := by simpa using hfit
    have hR := Lib.hid (Of12.sort (most := most) hch'.out hin.out hfit N R)
    rw [hfit]
    clear hfit
    go_wp2_with fail
    refine bodyPost_ret (results_of12 rfl _ _ (w.heap.size + 1) (.slice none 0 0) (.slice none 0 0) (.int .i64 33) rfl (hx2.out.set1 _).r rfl rfl) rfl ⟨_, _, 0, N, 0, R, 33, rfl, hR.out, NdsAt.nil _ _, IntsAt.nilI _ _, (hx2.out.set1 _).bel⟩
  rw [hfit]
  have hfit' := Lib.hid hfit
  have hNw := Lib.hid (RNew_any w2)
  clear hfit
  go_wp2_with fail
  with_reducible refine hNw.out.mono ?_
  rintro e w3 ⟨v3, rfl, hN3, hb3⟩
  have hN3' := Lib.hid hN3
  obtain ⟨A3, c3, rfl, -, -, -⟩ := hN3
  have hx3 := Lib.hid (hx2.out.step hb3)
  have hI0 := Lib.hid (MinI.start hx3.out hN3'.out)
  clear hb3 hNw r2 q2 f2 hx2
  go_wp2_with fail
  have hgl : Hid (w.heap.size + 1 < w3.heap.size) := hx3.out.lt
  clear hx3 hN3'
  generalize hgg : w3.heap.size = g at *
  clear hgg
  go_loopw [11] (fun i wr => ∃ k : Nat, k ≤ n ∧ i = .int .i64 k ∧ Hid (MinI w (.slice none 0 0) (.slice A n c) g A3 c3 k wr)) (fun i _ => n - (intOf i).toNat)
  case atStart => exact ⟨0, Nat.zero_le _, rfl, hI0.out⟩
  case round =>
  clear hI0
  obtain ⟨k, hk, rfl, hI⟩ := hrel
  have q1 := hI.out.bx.t
  by_cases hlk : k < n
  · have i2 : decide ((k : Int) < (n : Int)) = true := decide_eq_true (by omega)
    obtain ⟨z, hz, hO⟩ := hI.out.row
    have hb5 := Lib.hid ((Below.refl wr.heap.size wr).alloc (Nat.le_refl _) (.cells #[.int .i64 (-1)] 3))
    have hI5 := Lib.hid (hI.out.below hb5.out)
    have hz5 := Lib.hid ((hb5.out.cell (p := ⟨g, 1, none⟩) hI.out.gl).trans hz)
    have hO5 := Lib.hid (hO.but (But.of hb5.out []) (fun y hy => by cases hy))
    have hG5 : (wr.alloc (.cells #[.int .i64 (-1)] 3)).cell? ⟨wr.heap.size, 0, none⟩ = some (.int .i64 (-1)) := by simp
    have hlen : ((List.range k).map fun _ => (-1 : Int)).length ≤ 1000000 := by simp; omega
    have hzz : Hid (g + 1 ≤ (wr.alloc (.cells #[.int .i64 (-1)] 3)).heap.size) := by have := hI.out.gl; unfold Hid; simp; omega
    have hkn : (k : Int) < (n : Int) := by omega
    generalize hw5 : wr.alloc (.cells #[.int .i64 (-1)] 3) = w5 at *
    clear hb5 hO
    go_wp2_with (at_builtin; refine wpList_appI rfl _ _ rfl (g + 1) z ((List.range k).map fun _ => (-1 : Int)) rfl hO5.out wr.heap.size 1 rfl (-1) hG5 hlen hzz.out ?_)
    intro v' w7 hO7 hg7
    obtain ⟨hI7, c7, f7⟩ := hI5.out.grown hz5.out hO5.out hg7 hO7
    obtain ⟨b7, cap7, hv7, -⟩ := World.ownsRow.form hO7.1 (by simp)
    have hll : (List.map (fun _ => (-1 : Int)) (List.range k) ++ [(-1 : Int)]).length = k + 1 := by simp
    rw [hll] at hv7
    subst hv7
    have hI7' := Lib.hid hI7
    clear hI7 hO7 hg7 hw5
    go_wp2_with fail
    go_roundw
    case rel => exact ⟨k + 1, by omega, by go_num, hI7'.out⟩
    case measure => simp [intOf]; omega
  have i2 : decide ((k : Int) < (n : Int)) = false := decide_eq_false (by omega)
  obtain rfl : k = n := by omega
  obtain ⟨ib, ic, hgi, hW⟩ := hI.out.work (by have := h2.out; omega)
  obtain ⟨tb, to_, rfl, htb, hnd⟩ := hnd'.out (by have := h2.out; omega)
  have hwr : ∃ wq, Hid (OfI12 N most k R g ib ic wq (.slice none 0 0) 0 wr) ∧ Hid (TbH wq tb to_ k N g ib) ∧ Hid (TwoB w (.slice none 0 0) (.slice (some ⟨tb, to_, none⟩) k c) wq) ∧ Hid (g < wq.heap.size ∧ ib < wq.heap.size) :=
    ⟨wr, ⟨s012, fun _ => 0, rfl, rfl, OwnI.nil _ _, hW, inv_start k, fun i hi => absurd hi (Nat.not_lt_zero i), But.refl _ _ _⟩, ⟨Nat.lt_of_lt_of_le htb hI.out.bx.bel.size, by have := hgl.out; omega, by have := hgl.out; omega, fun i hi => (hnd i hi).keep fun j => hI.out.bx.bel.cell (p := ⟨tb, j, none⟩) htb⟩, hI.out.bx, hW.lt, hW.img.lt⟩
  obtain ⟨W0, hOI0, hTb0, hx0, hgi0⟩ := hwr
  have hgi' := Lib.hid hgi
  have hin' := hin
  clear hI hW hgi hnd hnd' hin hk hlk
  go_wp2_with fail
  clear q1
  go_loopw [12, 13, 14] (fun z i e14 wr => ∃ r : Nat, r ≤ j ∧ i = .int .i64 r ∧ Hid (OfI12 N most k R g ib ic W0 z r wr)) (fun _ i _ _ => j - (intOf i).toNat)
  case atStart => exact ⟨0, Nat.zero_le _, rfl, hOI0.out⟩
  case round =>
  clear hOI0
  obtain ⟨r, hr, rfl, hI⟩ := hrel
  obtain ⟨s1, X, hP1, he1, hO1, hW1, hV1, hX1, hB1⟩ := hI.out
  have hP1' := Lib.hid hP1
  have he1' := Lib.hid he1
  have hO1' := Lib.hid hO1
  have hW1' := Lib.hid hW1
  have hV1' := Lib.hid hV1
  have hX1' := Lib.hid hX1
  have hB1' := Lib.hid hB1
  have hS : Hid (∀ b ∈ [g, ib], w.heap.size + 1 < b) := fun b hb => by
    have := hgl.out; have := hgi'.out
    rcases List.mem_cons.1 hb with hb | hb
    · omega
    · have := List.mem_singleton.1 hb; omega
  have hxr := Lib.hid (hx0.out.but hB1 hS.out)
  have hTr := Lib.hid (hTb0.out.but hB1 (Nat.le_refl _))
  clear hI hP1 he1 hO1 hW1 hV1 hX1 hB1
  by_cases hrj : r < j
  · have i3 : decide ((r : Int) < (j : Int)) = true := decide_eq_true (by omega)
    obtain ⟨_, _, e1, _, hRR, hcu⟩ := hu'.out
    injection e1 with e1 _ e3
    subst e1; subst e3
    obtain ⟨ub, uo, rfl, hub, hcu⟩ := hcu (by omega)
    have hcr := hcu r hrj
    have hrin := hin'.out r hrj
    obtain ⟨p, hp⟩ : ∃ p : Nat, R r = p := ⟨(R r).toNat, by omega⟩
    rw [hp] at hcr
    have hcr' := Lib.hid hcr
    have hpt : Hid ((R r).toNat = p) := by unfold Hid; omega
    have hpk : Hid (p < k) := by unfold Hid; omega
    have hd : Below wr.heap.size wr wr.drew := (Below.refl _ _).drew
    have hBd := Lib.hid (But.of hd [g, ib])
    have hWk := Lib.hid (Walk12_any N most g ib ic tb to_ c k hch'.out hn hNR.out hmo k p hpk.out hpk.out wr.drew s1 he1'.out (hTr.out.but hBd.out (Nat.le_refl _)) (hW1'.out.below hd) hV1'.out)
    have hr0 : (0 : Int) ≤ (r : Int) := by omega
    have hrJ : (r : Int) < (j : Int) := by omega
    have hKx : ∀ {x : World}, TwoB w (.slice none 0 0) (.slice (some ⟨tb, to_, none⟩) k c) x → (x.cell? ⟨w.heap.size, 0, none⟩ = some (.slice (some ⟨tb, to_, none⟩) k c) ∧ x.cell? ⟨ub, uo + r, none⟩ = some (.int .i64 (p : Int))) := fun {x} h =>
      ⟨h.t, (h.bel.cell (p := ⟨ub, uo + r, none⟩) hub).trans hcr'.out⟩
    have hxd := Lib.hid hxr.out.drew
    clear hcu hRR hrin hp hcr hd
    go_wp2_with fail
    go_region_held3 (fun x => x.cell? ⟨w.heap.size, 0, none⟩ = some (.slice (some ⟨tb, to_, none⟩) k c) ∧ x.cell? ⟨ub, uo + r, none⟩ = some (.int .i64 (p : Int)))
      (first | exact hKx hxd.out | exact hKx hx4.out | fail)
      (first | (go_at_call 25; (with_reducible refine hWk.out.mono ?_); rintro e w4 ⟨s2, x, rfl, hWP, hV2, ⟨hmo2, x0, x1⟩, hok2, hkp2, hB4⟩; replace hB4 := hBd.out.next hB4 hBd.out.size; have hx4 := Lib.hid (hxr.out.but hB4 hS.out); have hWP' := Lib.hid hWP; have hV2' := Lib.hid hV2; have hx2 := Lib.hid (And.intro x0 x1); have hmo2' := Lib.hid hmo2; have hok2' := Lib.hid hok2; clear hWP hV2 hmo2 x0 x1 hok2 hkp2) | fail)
    have hB4' := Lib.hid hB4
    obtain ⟨-, p4⟩ := hKx hx4.out
    clear hKx hWk hBd hB4 hxd hxr
    have hP2 := Lib.hid (hP1'.out.more (by rw [hpt.out]; exact hWP'.out))
    by_cases he2 : s2.1.e = 0
    case neg =>
      have d2 : (s2.1.e != 0) = true := by simpa using he2
      have hR : Hid (∀ M Y, Of12 k N j R most 0 M 0 Y s2.1.e) := fun M Y => by
        obtain ⟨k', rfl⟩ : ∃ k', k = k' + 1 := ⟨k - 1, by have := hpk.out; omega⟩
        obtain ⟨V', hV'⟩ := RootsP.rest he2 hP2.out (j - (r + 1))
        rw [show r + 1 + (j - (r + 1)) = j by omega] at hV'
        exact Of12.no hch'.out hin'.out hfit'.out s2 V' hV' he2 M Y
      have r4 := hx4.out.r
      have f4 := hx4.out.fr
      clear he2 p4
      go_wp2_with fail
      refine bodyPost_ret (results_of12 rfl _ _ (w.heap.size + 1) (.slice none 0 0) (.slice none 0 0) (.int .i64 s2.1.e) rfl (hx4.out.set1 _).r rfl rfl) rfl ⟨_, _, 0, N, 0, R, s2.1.e, rfl, hR.out _ _, NdsAt.nil _ _, IntsAt.nilI _ _, (hx4.out.set1 _).bel⟩
    have d2 : (s2.1.e != 0) = false := by rw [he2]; rfl
    obtain ⟨hW4, hs4⟩ := hok2'.out he2
    have g1 := hW4.c1
    have ia := hW4.img.at_ p hpk.out
    rw [hs4] at ia
    dsimp only [Option.getD] at ia
    have he2' := Lib.hid he2
    have hp0 : (0 : Int) ≤ (p : Int) := by omega
    have hpn : (p : Int) < (k : Int) := by have := hpk.out; omega
    have hsz4 : Hid (W0.heap.size ≤ w4.heap.size) := Nat.le_trans hB1'.out.size hB4'.out.size
    have hbA := Lib.hid (((Below.refl w4.heap.size w4).alloc (Nat.le_refl _) (.cells #[.int .i64 x] 3)).drew)
    have hO4 := Lib.hid (hO1'.out.but hB4'.out (fun y hy => by
      have := hgi0.out
      rcases List.mem_cons.1 hy with hy | hy
      · omega
      · have := List.mem_singleton.1 hy; omega))
    have hOA := Lib.hid (hO4.out.but (But.of hbA.out []) (fun y hy => by cases hy))
    have hWA := Lib.hid (hW4.below hbA.out)
    have hBA := Lib.hid ((hB1'.out.next hB4'.out hB1'.out.size).next (But.of hbA.out [g, ib]) hsz4.out)
    have hGA : Hid ((w4.alloc (.cells #[.int .i64 x] 3)).drew.cell? ⟨w4.heap.size, 0, none⟩ = some (.int .i64 x)) := by
      show (w4.alloc (.cells #[.int .i64 x] 3)).cell? ⟨w4.heap.size, 0, none⟩ = _; simp
    have hlen : Hid (((List.range r).map X).length ≤ 1000000) := by unfold Hid; simp; omega
    have hzA : Hid (W0.heap.size ≤ (w4.alloc (.cells #[.int .i64 x] 3)).drew.heap.size) := by
      have := hsz4.out
      show _ ≤ (w4.alloc _).heap.size; simp; omega
    have hX2 : Hid (∀ i, i < r + 1 → 0 ≤ (if i = r then x else X i) ∧ (if i = r then x else X i) < s2.1.n) := fun i hi => by
      by_cases e : i = r
      · rw [if_pos e]; exact hx2.out
      · rw [if_neg e]
        have := hX1'.out i (by omega)
        have := hmo2'.out
        omega
    clear he2 hW4 hs4
    go_wp2_with fail
    go_region_law (refine step_appI rfl (.tmp 82) (.tmp 93) rfl W0.heap.size _ ((List.range r).map X) rfl hOA.out w4.heap.size 1 rfl x hGA.out hlen.out hzA.out ?_; intro v' w7 hO7 hg7; have hI7 : Hid (OfI12 N most k R g ib ic W0 v' (r + 1) w7) := ⟨s2, fun i => if i = r then x else X i, hP2.out, he2'.out, by rw [range_more]; exact hO7, hWA.out.grown hg7 hOA.out hgi0.out.1 hgi0.out.2, hV2'.out, hX2.out, hBA.out.grown hg7 hOA.out (Nat.le_refl _) hzA.out⟩; clear hO7 hg7)
    all_goals go_wp2_with fail
    all_goals go_roundw
    all_goals (first
      | exact ⟨r + 1, by omega, by go_num, hI7.out⟩
      | (simp [intOf]; omega)
      | skip)
  · have i3 : decide ((r : Int) < (j : Int)) = false := decide_eq_false (by omega)
    obtain rfl : r = j := by omega
    obtain ⟨A1, cc1, hq1, hN1⟩ := hW1'.out.tab
    have hN1' := Lib.hid hN1
    have r1 := hxr.out.r
    have f1 := hxr.out.fr
    have hR := Lib.hid (Of12.ok hch'.out hin'.out hfit'.out s1 X hP1'.out he1'.out hV1'.out hX1'.out)
    have hsn := hV1'.out.bound hn
    have hlt0 : w.heap.size + 1 < W0.heap.size := hx0.out.lt
    have hfin := Lib.hid ((hO1'.out.1.setCell (a := ⟨w.heap.size + 1, 0, none⟩) hlt0 (.slice A1 s1.1.n cc1)).intsF (by omega) (fun i hi => by
      have := hX1'.out i hi
      unfold R64; omega))
    have hNf := Lib.hid (hN1.setBox r1 (fun _ _ h => by cases h) (.slice A1 s1.1.n cc1))
    clear hN1 hsn hlt0
    go_wp2_with fail
    refine bodyPost_ret (results_of12 rfl _ _ (w.heap.size + 1) (.slice A1 s1.1.n cc1) u12 (.int .i64 0) rfl (hxr.out.set1 _).r rfl rfl) rfl ⟨_, _, s1.1.n, s1.1.N, r, X, 0, rfl, hR.out, hNf.out, hfin.out, (hxr.out.set1 _).bel⟩
end Go.Proofs.Ytecmoahadckomaa

namespace Go.Proofs.Ytecmoahadckomaa
open Go.RowKit Go.Maps
set_option maxRecDepth 1000000

theorem Of12.small {n : Nat} {N : Nat → Nd} {m : Nat} {R : Nat → Int} {most : Int} {m' : Nat} {M : Nat → Nd} {k : Nat} {X : Nat → Int} {er : Int} (h : Of12 n N m R most m' M k X er) (hn : n ≤ 3000) : m' ≤ 24002 ∧ k ≤ m := by
  cases h with
  | arg => exact ⟨by omega, by omega⟩
  | sort => exact ⟨by omega, by omega⟩
  | no => exact ⟨by omega, by omega⟩
  | ok _ _ _ s _ _ _ hs => exact ⟨hs.bound hn, Nat.le_refl _⟩
theorem bel_next {W x y : World} (h : Below W.heap.size W x) (hb : Below x.heap.size x y) : Below W.heap.size W y := h.trans (hb.mono h.size)
set_option maxHeartbeats 32000000 in
theorem CoreMakes_any (v : Value) (n : Nat) (N : Nat → Nd) (rv : Value) (nr : Nat) (R : Nat → Int) (most : Int) (w : World) (hv : NdsAt w v n N) (hr : IntsAt w rv nr R) (hmo : R64 most) :
    Calls Try.prog 3 #[.agg #[v], rv, .int .i64 most] w fun x w' => x = .returned (.bool true) ∧ Below w.heap.size w w' := by
  have hv' := Lib.hid hv
  have hr' := Lib.hid hr
  obtain ⟨A, c, rfl, -, -, -⟩ := hv
  obtain ⟨U, cu, rfl, -, -, -⟩ := hr
  have hwk := Lib.hid wakes12_any
  have hx0 := Lib.hid ((Bx.nil w).one (.slice A n c) 24)
  by_cases hbig : 300 < n
  · have hd : Hid (decide (300 < n) = true) := by unfold Hid; simpa using hbig
    go_enter Try.func3, Try.ntmps3
    go_wp2_with fail
    refine (Great5_any _ n N _ (hv'.out.below hx0.out.bel)).mono ?_
    rintro x w2 ⟨rfl, hb2⟩
    rw [hd.out]
    go_wp2_with fail
    refine (hwk.out w2).mono ?_
    rintro x w3 ⟨rfl, hb3⟩
    go_wp2
    go_ret
    exact ⟨rfl, ((hx0.out.step hb2).step hb3).bel⟩
  have hd : Hid (decide (300 < n) = false) := by unfold Hid; simpa using hbig
  have hn : n ≤ 300 := by omega
  clear hbig
  by_cases hmany : 100 < nr
  · have d1 : decide ((100 : Int) < (nr : Int)) = true := decide_eq_true (by omega)
    clear hmany
    go_enter Try.func3, Try.ntmps3
    go_wp2_with fail
    refine (Great5_any _ n N _ (hv'.out.below hx0.out.bel)).mono ?_
    rintro x w2 ⟨rfl, hb2⟩
    rw [hd.out]
    go_wp2_with fail
    refine (hwk.out w2).mono ?_
    rintro x w3 ⟨rfl, hb3⟩
    go_wp2
    go_ret
    exact ⟨rfl, ((hx0.out.step hb2).step hb3).bel⟩
  have d1 : decide ((100 : Int) < (nr : Int)) = false := decide_eq_false (by omega)
  have hnr : nr ≤ 100 := by omega
  clear hmany
  go_enter Try.func3, Try.ntmps3
  go_wp2_with fail
  refine (Great5_any _ n N _ (hv'.out.below hx0.out.bel)).mono ?_
  rintro x w2 ⟨rfl, hb2⟩
  rw [hd.out]
  have hx2 := Lib.hid (hx0.out.step hb2)
  obtain ⟨⟨q0, z0⟩, -⟩ := hx2.out.cells
  have hOf := Lib.hid (Of12_any _ _ n nr N R most w2 (hv'.out.below hx2.out.bel) (hr'.out.below hx2.out.bel) (by omega) (by omega) hmo)
  clear hx0 hb2 hd
  go_wp2_with fail
  with_reducible refine hOf.out.mono ?_
  rintro e w3 ⟨v3, vl, m, M, k, X, er, rfl, hO, hN, hI, hb3⟩
  have hx3 := Lib.hid (hx2.out.step hb3)
  have hO' := Lib.hid hO
  clear hO hx2 q0 z0 hb3 hOf
  have hN' := Lib.hid hN
  have hI' := Lib.hid hI
  obtain ⟨B, cb, rfl, -, -, -⟩ := hN
  obtain ⟨L, cl, rfl, -, -, -⟩ := hI
  obtain ⟨hm2, hk2⟩ := hO'.out.small (by omega)
  have hx4 := Lib.hid (hx3.out.one (.slice B m cb) 24)
  have hN4 := Lib.hid (hN'.out.alloc (.cells #[.slice B m cb] 24))
  have hI4 := Lib.hid (hI'.out.below ((Below.refl w3.heap.size w3).alloc (Nat.le_refl _) (.cells #[.slice B m cb] 24)))
  have hOf2 := Lib.hid (R12Of_any _ _ n nr N R most _ (hv'.out.below hx4.out.bel) (hr'.out.below hx4.out.bel) (by omega) (by omega) hmo)
  obtain ⟨⟨q4, z4⟩, ⟨q3, z3⟩, -⟩ := hx4.out.cells
  clear hN' hI' hx3
  go_wp2_with fail
  with_reducible refine hOf2.out.mono ?_
  rintro e w5 ⟨v5, v6, m5, M5, k5, X5, er5, rfl, hO5, hN5, hI5, hb5⟩
  obtain ⟨rfl, rfl, rfl, hM5, hX5⟩ := hO'.out.det hO5
  have hN5 := hN5.congr (fun i hi => (hM5 i hi).symm)
  have hI5 := hI5.congr (fun i hi => (hX5 i hi).symm)
  have hN5' := Lib.hid hN5
  have hI5' := Lib.hid hI5
  obtain ⟨B5, c5, rfl, -, -, -⟩ := hN5
  obtain ⟨L5, l5, rfl, -, -, -⟩ := hI5
  have hx5 := Lib.hid ((hx4.out.step hb5).one (.slice B5 m c5) 24)
  have hb6 := Lib.hid ((Below.refl w5.heap.size w5).alloc (Nat.le_refl _) (.cells #[.slice B5 m c5] 24))
  have hN6 := Lib.hid ((hN4.out.below hb5).below hb6.out)
  have hI6 := Lib.hid ((hI4.out.below hb5).below hb6.out)
  have hN7 := Lib.hid (hN5'.out.below hb6.out)
  have hI7 := Lib.hid (hI5'.out.below hb6.out)
  have de : (er == er) = true := by simp
  clear hOf2 hx4 hN4 hI4 hO5 hb5 hb6 hN5' hI5' q4 z4 q3 z3 hM5 hX5 hO'
  go_upto_region 5 with fail
  generalize hW6 : w5.alloc (.cells #[.slice B5 m c5] 24) = w6 at *
  have hW6' := Lib.hid hW6
  clear hW6
  have hSa := Lib.hid (fun (x : World) (hb : Below w6.heap.size w6 x) => Same5_yes _ _ m M x (hN6.out.below hb) (hN7.out.below hb))
  have hSl := Lib.hid (fun (x : World) (hb : Below w6.heap.size w6 x) => SameL12_yes _ _ k X x (hI6.out.below hb) (hI7.out.below hb) (by omega))
  have hC1 := Lib.hid (fun (x : World) (hb : Below w6.heap.size w6 x) => CIs_any _ n N x (hv'.out.below (hx5.out.bel.trans (hb.mono hx5.out.bel.size))) (by omega))
  have hC2 := Lib.hid (fun (x : World) (hb : Below w6.heap.size w6 x) => R12Is_any _ n N x (hv'.out.below (hx5.out.bel.trans (hb.mono hx5.out.bel.size))) (by omega))
  have hC3 := Lib.hid (fun (x : World) (hb : Below w6.heap.size w6 x) => CIs_any _ m M x (hN7.out.below hb) (by omega))
  have hC4 := Lib.hid (fun (x : World) (hb : Below w6.heap.size w6 x) => R12Is_any _ m M x (hN7.out.below hb) (by omega))
  generalize isCB n N = p1 at hC1 hC2
  generalize isCB m M = p2 at hC3 hC4
  have dp1 : (p1 == p1) = true := by simp
  have dp2 : (p2 == p2) = true := by simp
  have hKp : ∀ {x : World}, Below w6.heap.size w6 x → (x.cell? ⟨w5.heap.size, 0, none⟩ = some (.slice B5 m c5) ∧ x.cell? ⟨w3.heap.size, 0, none⟩ = some (.slice B m cb) ∧ x.cell? ⟨w.heap.size, 0, none⟩ = some (.slice A n c)) := fun {x} hb => by
    obtain ⟨⟨q5, -⟩, ⟨q4, -⟩, ⟨q3, -⟩, -⟩ := (hx5.out.step hb).cells
    exact ⟨q5, q4, q3⟩
  have hb0 : Below w6.heap.size w6 w6.drew := (Below.refl _ _).drew
  clear hN5 hI5 hN6 hI6 hN7 hI7 hv' hr' hn hnr hm2 hk2 hW6'
  go_region_held3 (fun x => x.cell? ⟨w5.heap.size, 0, none⟩ = some (.slice B5 m c5) ∧ x.cell? ⟨w3.heap.size, 0, none⟩ = some (.slice B m cb) ∧ x.cell? ⟨w.heap.size, 0, none⟩ = some (.slice A n c))
    (first | exact hKp (by assumption) | fail)
    (first | (go_at_call 10; (with_reducible refine (hSa.out _ (by assumption)).mono ?_); rintro e wz ⟨rfl, hbz⟩; replace hbz := bel_next (W := w6) (by assumption) hbz) | (go_at_call 11; (with_reducible refine (hSl.out _ (by assumption)).mono ?_); rintro e wz ⟨rfl, hbz⟩; replace hbz := bel_next (W := w6) (by assumption) hbz) | (go_at_call 12; (with_reducible refine (hC1.out _ (by assumption)).mono ?_); rintro e wz ⟨rfl, hbz⟩; replace hbz := bel_next (W := w6) (by assumption) hbz) | (go_at_call 13; (with_reducible refine (hC2.out _ (by assumption)).mono ?_); rintro e wz ⟨rfl, hbz⟩; replace hbz := bel_next (W := w6) (by assumption) hbz) | (go_at_call 12; (with_reducible refine (hC3.out _ (by assumption)).mono ?_); rintro e wz ⟨rfl, hbz⟩; replace hbz := bel_next (W := w6) (by assumption) hbz) | (go_at_call 13; (with_reducible refine (hC4.out _ (by assumption)).mono ?_); rintro e wz ⟨rfl, hbz⟩; replace hbz := bel_next (W := w6) (by assumption) hbz) | (go_at_call 7; (with_reducible refine (hwk.out _).mono ?_); rintro e wz ⟨rfl, hbz⟩; replace hbz := bel_next (W := w6) (by assumption) hbz) | fail)
  all_goals go_wp2_with fail
  all_goals go_ret
  all_goals exact ⟨rfl, (hx5.out.step (by assumption)).bel⟩
end Go.Proofs.Ytecmoahadckomaa
