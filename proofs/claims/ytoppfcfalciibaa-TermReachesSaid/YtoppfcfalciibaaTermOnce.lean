/- The law TermOnce: the walk. -/
import Derived.Test.YtoppfcfalciibaaTermW
import Derived.Test.YtoppfcfalciibaaBoxes
import Derived.IntWalk
namespace Go.Proofs.Ytoppfcfalciibaa
open Go.RowKit Go.Maps

def ndK (b : Nat) (e : Nd) (K : List (Nat × Nat × Value)) : List (Nat × Nat × Value) :=
  (b, 0, .int .i8 e.op) :: (b, 1, .int .i8 e.len) :: (b, 2, .int .i64 e.a0) :: (b, 3, .int .i64 e.a1) :: (b, 4, .int .i64 e.a2) :: (b, 5, .int .i64 e.sort) :: (b, 6, .int .i64 e.fn) :: (b, 7, .int .i64 e.num) :: K
theorem Bx.node {w x : World} {K : List (Nat × Nat × Value)} (h : Bx w K x) (e : Nd) (t : TypeId) :
    Bx w (ndK x.heap.size e K) (x.alloc (.cells #[.int .i8 e.op, .int .i8 e.len, .int .i64 e.a0, .int .i64 e.a1, .int .i64 e.a2, .int .i64 e.sort, .int .i64 e.fn, .int .i64 e.num] t)) := by
  refine ⟨⟨by simp, ⟨by simp, ⟨by simp, ⟨by simp, ⟨by simp, ⟨by simp, ⟨by simp, ⟨by simp, (h.skip _).cells⟩⟩⟩⟩⟩⟩⟩⟩, (h.skip _).bel⟩

theorem NdsAt.drew {w : World} {v : Value} {n : Nat} {N : Nat → Nd} (h : NdsAt w v n N) : NdsAt w.drew v n N := h.keep (Nat.le_refl _) fun _ _ => rfl
theorem NdIn.drew {w : World} {b o : Nat} {e : Nd} (h : NdIn w b o e) : NdIn w.drew b o e := h.keep fun _ => rfl
theorem NdsAt.cellsAt {w : World} {b o n c : Nat} {N : Nat → Nd} (h : NdsAt w (.slice (some ⟨b, o, none⟩) n c) n N) : ∀ i, i < n → NdIn w b (o + i * 8) (N i) := by
  intro i hi
  obtain ⟨A, c', e, _, _, hc⟩ := h
  injection e with e _ _
  subst e
  obtain ⟨b', o', e, _, hc⟩ := hc (by omega)
  injection e with e
  injection e with e1 e2
  subst e1; subst e2
  exact hc i hi
theorem CutR.good {n : Nat} {N : Nat → Nd} {j m : Nat} {er : Int} (h : CutR n N j m er) (hc : CheckP n N) (h2 : 2 ≤ j) (hj : j ≤ n) : m = j ∧ er = 0 := by
  cases h with
  | arg h => exact absurd ⟨hc, by omega, by omega⟩ h
  | cut _ _ _ j' e => exact ⟨by omega, rfl⟩
theorem onceS {w x : World} {G b4 o4 m c4 B n c off : Nat} {A : Option Addr} {e E : Nd} (h : Bx w ((G, 0, .slice (some ⟨b4, o4, none⟩) m c4) :: ndK (B + 1) e ((B, 0, .slice A n c) :: [])) x) (hE : NdIn x b4 off E) :
    x.cell? ⟨G, 0, none⟩ = some (.slice (some ⟨b4, o4, none⟩) m c4) ∧ x.cell? ⟨B, 0, none⟩ = some (.slice A n c) ∧ x.cell? ⟨B + 1, 0, none⟩ = some (.int .i8 e.op) ∧ x.cell? ⟨B + 1, 1, none⟩ = some (.int .i8 e.len) ∧ x.cell? ⟨B + 1, 2, none⟩ = some (.int .i64 e.a0) ∧ x.cell? ⟨B + 1, 3, none⟩ = some (.int .i64 e.a1) ∧ x.cell? ⟨B + 1, 4, none⟩ = some (.int .i64 e.a2) ∧ x.cell? ⟨B + 1, 5, none⟩ = some (.int .i64 e.sort) ∧ x.cell? ⟨B + 1, 6, none⟩ = some (.int .i64 e.fn) ∧ x.cell? ⟨B + 1, 7, none⟩ = some (.int .i64 e.num) ∧ x.cell? ⟨b4, off, none⟩ = some (.int .i8 E.op) ∧ x.cell? ⟨b4, off + 1, none⟩ = some (.int .i8 E.len) ∧ x.cell? ⟨b4, off + 2, none⟩ = some (.int .i64 E.a0) ∧ x.cell? ⟨b4, off + 3, none⟩ = some (.int .i64 E.a1) ∧ x.cell? ⟨b4, off + 4, none⟩ = some (.int .i64 E.a2) ∧ x.cell? ⟨b4, off + 5, none⟩ = some (.int .i64 E.sort) ∧ x.cell? ⟨b4, off + 6, none⟩ = some (.int .i64 E.fn) ∧ x.cell? ⟨b4, off + 7, none⟩ = some (.int .i64 E.num) ∧ Bx w ((G, 0, .slice (some ⟨b4, o4, none⟩) m c4) :: ndK (B + 1) e ((B, 0, .slice A n c) :: [])) x := by
  obtain ⟨⟨g0, _⟩, ⟨e0, _⟩, ⟨e1, _⟩, ⟨e2, _⟩, ⟨e3, _⟩, ⟨e4, _⟩, ⟨e5, _⟩, ⟨e6, _⟩, ⟨e7, _⟩, ⟨q0, _⟩, -⟩ := h.cells
  obtain ⟨f0, f1, f2, f3, f4, f5, f6, f7⟩ := hE
  exact ⟨g0, q0, e0, e1, e2, e3, e4, e5, e6, e7, f0, f1, f2, f3, f4, f5, f6, f7, h⟩

set_option maxHeartbeats 4000000 in
set_option maxRecDepth 100000 in
theorem Once_main (v : Value) (n : Nat) (N : Nat → Nd) (e : Nd) (most : Int) (w : World) (hv : NdsAt w v n N) (he : NdR e) (hm : R64 most) (hn : n ≤ 300) (hch : CheckP n N) :
    Calls Try.prog 3 #[.agg #[v], ndV e, .int .i64 most] w fun x w' => x = .returned (.bool true) ∧ Below w.heap.size w w' := by
  have hv' := Lib.hid hv
  have hr := Lib.hid hv.ranges
  obtain ⟨A, c, rfl, hc, _, hcs⟩ := hv
  obtain ⟨hc0, hc1⟩ := hc
  obtain ⟨b, o, rfl, hbl, hcs⟩ := hcs (by have := hch.two; omega)
  have hcs' := Lib.hid hcs
  clear hcs
  have hm' := Lib.hid hm
  obtain ⟨hm0, hm1⟩ := hm
  unfold ndV
  have hx0 := ((Bx.nil w).one (.slice (some ⟨b, o, none⟩) n c) 24).node e 28
  rw [World.size_alloc] at hx0
  have hd : Hid (decide (300 < n) = false) := by unfold Hid; simp; omega
  have hy := Lib.hid (check_yes hch)
  have hch' := Lib.hid hch
  have h2 := hch.two
  clear hch
  go_enter Try.func3, Try.ntmps3
  go_wp2_with fail
  refine (Great5_any _ n N _ (hv'.out.below hx0.bel)).mono ?_
  rintro x w2 ⟨rfl, hb2⟩
  rw [hd.out]
  have hx2 := hx0.step hb2
  obtain ⟨_, _, _, _, _, _, _, _, ⟨q0, _⟩, -⟩ := hx2.cells
  go_wp2_with fail
  refine (RCheck_any _ n N w2 (hv'.out.below hx2.bel) (by omega)).mono ?_
  rintro x w3 ⟨rfl, hb3⟩
  rw [hy.out]
  have hx3 := hx2.step hb3
  clear q0 hb2 hb3 hx2 hx0
  obtain ⟨⟨e0, _⟩, ⟨e1, _⟩, ⟨e2, _⟩, ⟨e3, _⟩, ⟨e4, _⟩, ⟨e5, _⟩, ⟨e6, _⟩, ⟨e7, _⟩, ⟨q0, _⟩, -⟩ := hx3.cells
  go_wp2_with fail
  refine (Put_any (.slice (some ⟨b, o, none⟩) n c) n N e most w3 (hv'.out.below hx3.bel) (by omega) he hm'.out).mono ?_
  rintro x w4 ⟨v4, m, M, at4, er4, rfl, hR, hN4, hb4⟩
  have hx4 := hx3.step hb4
  clear e0 e1 e2 e3 e4 e5 e6 e7 q0 hb4 hx3
  have hN4' := Lib.hid hN4
  obtain ⟨A4, c4, rfl, hcap4, _, hcs4⟩ := hN4
  have hx5 := hx4.one (.slice A4 m c4) 24
  by_cases her : er4 = 0
  · subst her
    obtain ⟨j, rfl, hjm, hMj, hchM, ⟨hm1', hm2'⟩, hMN, hstm⟩ := hR.good
    clear hR hx4
    obtain ⟨b4, o4, rfl, hbl4, hcs4⟩ := hcs4 (by omega)
    have hcs4' := Lib.hid hcs4
    have hx5' := Lib.hid hx5
    obtain ⟨⟨g0, z0⟩, ⟨e0, _⟩, ⟨e1, _⟩, ⟨e2, _⟩, ⟨e3, _⟩, ⟨e4, _⟩, ⟨e5, _⟩, ⟨e6, _⟩, ⟨e7, _⟩, ⟨q0, _⟩, -⟩ := hx5.cells
    have hN5 := Lib.hid (hN4'.out.alloc (.cells #[.slice (some ⟨b4, o4, none⟩) m c4] 24))
    have hyM := Lib.hid (check_yes hchM)
    have hMj' := Lib.hid hMj
    have hMN' := Lib.hid hMN
    have hchM' := Lib.hid hchM
    have hstm' := Lib.hid hstm
    have d0 : decide ((j : Int) < 0) = false := by simp
    have d1 : decide (m ≤ j) = false := by simp; omega
    have i0 : (0 : Int) ≤ (j : Int) := by omega
    have i1 : (j : Int) < (m : Int) := by omega
    have d2 : ndEq (M j).op (M j).len (M j).a0 (M j).a1 (M j).a2 (M j).sort (M j).fn (M j).num e.op e.len e.a0 e.a1 e.a2 e.sort e.fn e.num = true := (ndEq_eq (M j) e).trans (decide_eq_true hMj)
    have d3 : decide (m < n) = false := by simp; omega
    have d4 : decide (((n : Int) + 1) < (m : Int)) = false := by simp; omega
    have d5 : IntKind.i64.wrap ((n : Int) + 1) = (n : Int) + 1 := IntWalk.i64_in _ (by omega)
    have hen := run_eqNd
    clear hMj hchM hcs4 hMN hstm
    have hnd5 := Lib.hid (((hcs4'.out j hjm).below ((Below.refl _ _).alloc (Nat.le_refl _) (.cells #[.slice (some ⟨b4, o4, none⟩) m c4] 24)) hbl4))
    have hs5 := onceS hx5.drew hnd5.out.drew
    have hs5' := Lib.hid hs5
    clear hs5
    go_wp2
    clear g0 z0 e0 e1 e2 e3 e4 e5 e6 e7 q0
    go_region_held3 (fun x => x.cell? ⟨w4.heap.size, 0, none⟩ = some (.slice (some ⟨b4, o4, none⟩) m c4) ∧ x.cell? ⟨w.heap.size, 0, none⟩ = some (.slice (some ⟨b, o, none⟩) n c) ∧ x.cell? ⟨w.heap.size + 1, 0, none⟩ = some (.int .i8 e.op) ∧ x.cell? ⟨w.heap.size + 1, 1, none⟩ = some (.int .i8 e.len) ∧ x.cell? ⟨w.heap.size + 1, 2, none⟩ = some (.int .i64 e.a0) ∧ x.cell? ⟨w.heap.size + 1, 3, none⟩ = some (.int .i64 e.a1) ∧ x.cell? ⟨w.heap.size + 1, 4, none⟩ = some (.int .i64 e.a2) ∧ x.cell? ⟨w.heap.size + 1, 5, none⟩ = some (.int .i64 e.sort) ∧ x.cell? ⟨w.heap.size + 1, 6, none⟩ = some (.int .i64 e.fn) ∧ x.cell? ⟨w.heap.size + 1, 7, none⟩ = some (.int .i64 e.num) ∧ x.cell? ⟨b4, o4 + j * 8, none⟩ = some (.int .i8 (M j).op) ∧ x.cell? ⟨b4, o4 + j * 8 + 1, none⟩ = some (.int .i8 (M j).len) ∧ x.cell? ⟨b4, o4 + j * 8 + 2, none⟩ = some (.int .i64 (M j).a0) ∧ x.cell? ⟨b4, o4 + j * 8 + 3, none⟩ = some (.int .i64 (M j).a1) ∧ x.cell? ⟨b4, o4 + j * 8 + 4, none⟩ = some (.int .i64 (M j).a2) ∧ x.cell? ⟨b4, o4 + j * 8 + 5, none⟩ = some (.int .i64 (M j).sort) ∧ x.cell? ⟨b4, o4 + j * 8 + 6, none⟩ = some (.int .i64 (M j).fn) ∧ x.cell? ⟨b4, o4 + j * 8 + 7, none⟩ = some (.int .i64 (M j).num) ∧ Bx w ((w4.heap.size, 0, .slice (some ⟨b4, o4, none⟩) m c4) :: ndK (w.heap.size + 1) e ((w.heap.size, 0, .slice (some ⟨b, o, none⟩) n c) :: [])) x) (first | exact hs5'.out | exact hs6)
      (first | (go_at_call 17; refine (Check_any _ m M _ hN5.out.drew (by omega)).mono ?_; rintro x w6 ⟨rfl, hb6⟩; rw [hyM.out]; have hx6 := hx5.drew.step hb6; have hs6 := onceS hx6 (hnd5.out.drew.below hb6 (by simp; omega))))
    clear d0 d1 d2 d3 d4 d5 i0 i1 hx5 hx5' hs5' hnd5 hN5 hs6 hyM
    have hx6' := Lib.hid hx6
    have hN6 := Lib.hid (hN4'.out.keep (w' := w6) (by have := hb6.size; simp at this; omega) (fun p hp => (hb6.cell (p := p) (by simp; omega)).trans ((((Below.refl _ _).alloc (Nat.le_refl _) (.cells #[.slice (some ⟨b4, o4, none⟩) m c4] 24)).drew).cell hp)))
    clear hb6 hN4'
    go_wp2
    go_loopw [86] (fun i wr => ∃ r : Nat, r ≤ n ∧ i = .int .i64 r ∧ ∃ d, wr = w6.drewN d) (fun i _ => n - (intOf i).toNat)
    case atStart => exact ⟨0, Nat.zero_le _, rfl, 0, rfl⟩
    case round =>
      obtain ⟨r, hrn, rfl, d6, rfl⟩ := hrel
      obtain ⟨⟨g0, _⟩, ⟨e0, _⟩, ⟨e1, _⟩, ⟨e2, _⟩, ⟨e3, _⟩, ⟨e4, _⟩, ⟨e5, _⟩, ⟨e6, _⟩, ⟨e7, _⟩, ⟨q0, _⟩, -⟩ := hx6'.out.cells
      by_cases hlt : r < n
      · obtain ⟨f0, f1, f2, f3, f4, f5, f6, f7⟩ := (hcs'.out r hlt).below hx6'.out.bel hbl
        obtain ⟨k0, k1, k2, k3, k4, k5, k6, k7⟩ := hN6.out.cellsAt r (by omega)
        clear e0 e1 e2 e3 e4 e5 e6 e7
        have hd7 : ndEq (M r).op (M r).len (M r).a0 (M r).a1 (M r).a2 (M r).sort (M r).fn (M r).num (N r).op (N r).len (N r).a0 (N r).a1 (N r).a2 (N r).sort (N r).fn (N r).num = true := (ndEq_eq (M r) (N r)).trans (decide_eq_true (hMN'.out r hlt))
        have i2 : (r : Int) < (m : Int) := by omega
        have i3 : r < m := by omega
        go_wp2
        go_quiet (fail)
        go_wp2
        go_roundw
        case rel => exact ⟨r + 1, by omega, by go_num, _, rfl⟩
        case measure => simp [intOf]; omega
      · clear g0 q0 e0 e1 e2 e3 e4 e5 e6 e7
        have hx7 := hx6'.out.drewN d6
        have hN7 := Lib.hid (hN6.out.drewN d6)
        generalize w6.drewN d6 = w7 at *
        clear hx6' hN6
        obtain ⟨⟨g0, z0⟩, ⟨e0, _⟩, ⟨e1, _⟩, ⟨e2, _⟩, ⟨e3, _⟩, ⟨e4, _⟩, ⟨e5, _⟩, ⟨e6, _⟩, ⟨e7, _⟩, ⟨q0, _⟩, -⟩ := hx7.cells
        go_wp2_with fail
        refine (Put_any (.slice (some ⟨b4, o4, none⟩) m c4) m M e 0 w7 hN7.out (by omega) he ⟨by decide, by decide⟩).mono ?_
        rintro x w8 ⟨v8, m8, M8, at8, er8, rfl, hR8, hN8, hb8⟩
        obtain ⟨rfl, rfl, rfl, rfl⟩ := hR8.old hchM'.out hstm'.out j hjm hMj'.out
        have hN8' := Lib.hid hN8
        obtain ⟨A8, c8, rfl, _, _, _⟩ := hN8
        have hx8 := (hx7.step hb8).one (.slice A8 m8 c8) 24
        clear hR8 g0 z0 e0 e1 e2 e3 e4 e5 e6 e7 q0 hx7
        have hN8b := Lib.hid ((hN7.out.below hb8).alloc (.cells #[.slice A8 m8 c8] 24))
        have hN8a := Lib.hid (hN8'.out.alloc (.cells #[.slice A8 m8 c8] 24))
        clear hN7 hN8' hb8
        obtain ⟨⟨k0, _⟩, ⟨g0, z0⟩, _, _, _, _, _, _, _, _, ⟨q0, _⟩, -⟩ := hx8.cells
        generalize hW8 : w8.alloc (.cells #[.slice A8 m8 c8] 24) = W8 at *
        go_wp2_with fail
        refine (Cut_any (.slice (some ⟨b4, o4, none⟩) m8 c4) m8 M8 n W8 hN8b.out (by omega) (by unfold R64; omega)).mono ?_
        rintro x w9 ⟨v9, m9, er9, rfl, hR9, hN9, hb9⟩
        obtain ⟨rfl, rfl⟩ := hR9.good hchM'.out h2 (by omega)
        have hN9' := Lib.hid hN9
        obtain ⟨A9, c9, rfl, _, _, _⟩ := hN9
        have hx9 := (hx8.step hb9).one (.slice A9 m9 c9) 24
        have hN9a := Lib.hid ((hN8a.out.below hb9).alloc (.cells #[.slice A9 m9 c9] 24))
        have hN9b := Lib.hid ((hN8b.out.below hb9).alloc (.cells #[.slice A9 m9 c9] 24))
        have hN9c := Lib.hid (hN9'.out.alloc (.cells #[.slice A9 m9 c9] 24))
        clear hR9 hN9' hN8a hN8b hb9 hx8 k0 g0 z0 q0 hW8
        obtain ⟨⟨l0, _⟩, ⟨k0, _⟩, ⟨g0, z0⟩, _, _, _, _, _, _, _, _, ⟨q0, _⟩, -⟩ := hx9.cells
        have hs1 := Lib.hid (same_yes (n := m8) (N := M8) (M := M8) fun _ _ => rfl)
        have hs2 := Lib.hid (same_yes (n := m9) (N := M8) (M := N) hMN'.out)
        generalize hW9 : w9.alloc (.cells #[.slice A9 m9 c9] 24) = W9 at *
        go_wp2_with fail
        refine (Same_any _ _ m8 m8 M8 M8 W9 hN9b.out hN9a.out).mono ?_
        rintro x wa ⟨rfl, hba⟩
        rw [hs1.out]
        have hxa := hx9.step hba
        clear l0 k0 g0 z0 q0
        obtain ⟨⟨l0, _⟩, ⟨k0, _⟩, ⟨g0, z0⟩, _, _, _, _, _, _, _, _, ⟨q0, _⟩, -⟩ := hxa.cells
        go_wp2_with fail
        refine (Same_any _ _ m9 m9 M8 N wa (hN9c.out.below hba) (hv'.out.below hxa.bel)).mono ?_
        rintro x wb ⟨rfl, hbb⟩
        rw [hs2.out]
        have hxb := hxa.step hbb
        clear l0 k0 g0 z0 q0
        go_wp2_with fail
        refine (wakes05_any wb).mono ?_
        rintro x wc ⟨rfl, hbc⟩
        go_wp2
        go_ret
        exact ⟨rfl, (hxb.step hbc).bel⟩
  · have hd4 : (er4 != 0) = true := by simpa using her
    have hm0 : m = 0 := hR.fails her
    subst hm0
    clear hR her hx4
    go_wp2_with fail
    refine (wakes05_any _).mono ?_
    rintro x w6 ⟨rfl, hb6⟩
    go_wp2
    go_ret
    exact ⟨rfl, (hx5.step hb6).bel⟩

set_option maxHeartbeats 2000000 in
set_option maxRecDepth 100000 in
theorem Once_any (v : Value) (n : Nat) (N : Nat → Nd) (e : Nd) (most : Int) (w : World) (hv : NdsAt w v n N) (he : NdR e) (hm : R64 most) :
    Calls Try.prog 3 #[.agg #[v], ndV e, .int .i64 most] w fun x w' => x = .returned (.bool true) ∧ Below w.heap.size w w' := by
  have hv' := Lib.hid hv
  have hr := Lib.hid hv.ranges
  obtain ⟨A, c, rfl, hc, _, _⟩ := hv
  obtain ⟨hc0, hc1⟩ := hc
  unfold ndV
  have hx0 := ((Bx.nil w).one (.slice A n c) 24).node e 28
  rw [World.size_alloc] at hx0
  by_cases hbig : 300 < n
  · have hd : Hid (decide (300 < n) = true) := by unfold Hid; simpa using hbig
    go_enter Try.func3, Try.ntmps3
    go_wp2_with fail
    refine (Great5_any _ n N _ (hv'.out.below hx0.bel)).mono ?_
    rintro x w2 ⟨rfl, hb2⟩
    rw [hd.out]
    go_wp2_with fail
    refine (wakes05_any w2).mono ?_
    rintro x w3 ⟨rfl, hb3⟩
    go_wp2
    go_ret
    exact ⟨rfl, ((hx0.step hb2).step hb3).bel⟩
  have hd : Hid (decide (300 < n) = false) := by unfold Hid; simpa using hbig
  have hn : n ≤ 300 := by omega
  clear hbig
  rcases Classical.em (CheckP n N) with hch | hch
  · exact Once_main (.slice A n c) n N e most w hv'.out he hm hn hch
  · have hy := Lib.hid (check_not hch)
    clear hch
    go_enter Try.func3, Try.ntmps3
    go_wp2_with fail
    refine (Great5_any _ n N _ (hv'.out.below hx0.bel)).mono ?_
    rintro x w2 ⟨rfl, hb2⟩
    rw [hd.out]
    have hx2 := hx0.step hb2
    obtain ⟨_, _, _, _, _, _, _, _, ⟨q0, _⟩, -⟩ := hx2.cells
    go_wp2_with fail
    refine (RCheck_any _ n N w2 (hv'.out.below hx2.bel) (by omega)).mono ?_
    rintro x w3 ⟨rfl, hb3⟩
    rw [hy.out]
    go_wp2_with fail
    refine (wakes05_any w3).mono ?_
    rintro x w4 ⟨rfl, hb4⟩
    go_wp2
    go_ret
    exact ⟨rfl, ((hx2.step hb3).step hb4).bel⟩
end Go.Proofs.Ytoppfcfalciibaa
