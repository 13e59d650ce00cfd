/- The law TermReaches: the walk. -/
import Derived.Test.YtoppfcfalciibaaReach
import Derived.Test.YtoppfcfalciibaaIntsQ
import Derived.Test.YtoppfcfalciibaaTermOnce
namespace Go.Proofs.Ytoppfcfalciibaa
open Go.RowKit Go.Maps

theorem arg_mem (N : Nat → Nd) (i k : Nat) (h : (k : Int) < (N i).len) (h3 : k < 3) : (N i).arg k ∈ argsN N i :=
  List.mem_map.2 ⟨k, List.mem_range.2 (by omega), rfl⟩
theorem reach_again {N : Nat → Nd} {n : Nat} (S : Nat → Bool) (hc : CheckP n N) :
    outL (mkB N n (rootB (fun i => (outL (mkB N n S n) n).getD i 0) (outL (mkB N n S n) n).length) n) n = outL (mkB N n S n) n := by
  refine outL_congr n fun i hi => ?_
  rw [mkB_idem hc (fun i hi hS x hx => ?_) n (Nat.le_refl _) i, rootB_out hi]
  obtain ⟨x0, x1⟩ := hc.argsIn hi hx
  rw [rootB_out (by omega)]
  rw [rootB_out hi] at hS
  exact mkB_closed hc hi hS hx
theorem NdIn.argc' {w : World} {b o : Nat} {e : Nd} (h : NdIn w b o e) (k : Nat) (hk : k < 3) : w.cell? ⟨b, o + 2 + k, none⟩ = some (.int .i64 (e.arg k)) := by
  obtain ⟨_, _, h2, h3, h4, _⟩ := h
  have hk3 : k = 0 ∨ k = 1 ∨ k = 2 := by omega
  rcases hk3 with rfl | rfl | rfl
  · exact h2
  · exact h3
  · exact h4

set_option maxHeartbeats 4000000 in
set_option maxRecDepth 100000 in
theorem Reaches_main (v rv : Value) (n r : Nat) (N : Nat → Nd) (R : Nat → Int) (w : World) (hv : NdsAt w v n N) (hr : IntsAt w rv r R) (hn : n ≤ 300) (hr2 : r ≤ 50) (hch : CheckP n N) :
    Calls Try.prog 6 #[.agg #[v], rv] w fun x w' => x = .returned (.bool true) ∧ Below w.heap.size w w' := by
  have hv' := Lib.hid hv
  have hr' := Lib.hid hr
  obtain ⟨A, c, rfl, hc, _, hcs⟩ := hv
  have h2 := hch.two
  obtain ⟨b, o, rfl, hbl, hcs⟩ := hcs (by omega)
  obtain ⟨Ar, cr, rfl, _, hrR, hrc⟩ := hr
  have hcs' := Lib.hid hcs
  have hrc' := Lib.hid hrc
  have hrR' := Lib.hid hrR
  clear hcs hc hrc hrR
  have hx0 := (Bx.nil w).one (.slice (some ⟨b, o, none⟩) n c) 24
  have hd : Hid (decide (300 < n) = false) := by unfold Hid; simp; omega
  have hy := Lib.hid (check_yes hch)
  have hch' := Lib.hid hch
  have d50 : decide ((50 : Int) < (r : Int)) = false := decide_eq_false (by omega)
  have hmk := run_make_row' (P := Try.prog) 41 3 (.int .i64 0) 8 Try.underlying41 info_int rfl .i64 .i64 n (by omega) (by omega)
  clear hch
  go_enter Try.func6, Try.ntmps6
  go_wp2_with fail
  refine (Great5_any _ n N _ (hv'.out.below hx0.bel)).mono ?_
  rintro x w2 ⟨rfl, hb2⟩
  rw [hd.out]
  have hx2 := hx0.step hb2
  obtain ⟨⟨q0, _⟩, -⟩ := hx2.cells
  go_wp2_with fail
  refine (RCheck_any _ n N w2 (hv'.out.below hx2.bel) (by omega)).mono ?_
  rintro x w3 ⟨rfl, hb3⟩
  rw [hy.out]
  have hx3 := hx2.step hb3
  clear q0 hb2 hb3 hx2 hx0
  obtain ⟨⟨q0, _⟩, -⟩ := hx3.cells
  go_wp2_with fail
  refine (Reach_any _ _ n r N R w3 (hv'.out.below hx3.bel) (by omega) hch'.out (hr'.out.below hx3.bel) (by omega)).mono ?_
  rintro x w4 ⟨lv, rfl, hown, hb4⟩
  have hx4 := hx3.step hb4
  clear q0
  have hag := Lib.hid (reach_again (rootB R r) hch'.out)
  have hroot : Hid (∀ k, k < r → 0 ≤ R k → R k < n → mkB N n (rootB R r) n (R k).toNat = true) := by
    intro k hk h0 h1
    exact mkB_root (rootB_iff.2 ⟨k, hk, by omega⟩)
  have hcl : Hid (∀ i, i < n → mkB N n (rootB R r) n i = true → ∀ x ∈ argsN N i, mkB N n (rootB R r) n x.toNat = true) := fun i hi h x hx => mkB_closed hch'.out hi h hx
  generalize hM : mkB N n (rootB R r) n = M at hown hag hroot hcl
  clear hM
  have hlen := outL_len M n
  have hX1 : Hid (∀ j, j < (outL M n).length → ∃ k : Nat, (outL M n).getD j 0 = k ∧ k < n ∧ M k = true) := fun j hj => by
    have : (outL M n).getD j 0 ∈ outL M n := by rw [List.getD_eq_getElem?_getD, List.getElem?_eq_getElem hj]; exact List.getElem_mem hj
    exact (outL_mem M _ n).1 this
  have hX2 := Lib.hid (outL_up M n)
  have hX3 : Hid (∀ j, j < n → rootB (fun i => (outL M n).getD i 0) (outL M n).length j = M j) := fun j hj => rootB_out hj
  have hli := hown.ints (by omega) (fun x hx => by obtain ⟨i, h1, h2, _⟩ := (outL_mem M x n).1 hx; rw [h1]; unfold R64; omega)
  have hR7 : Hid (∀ x ∈ outL M n, R64 x) := fun x hx => by obtain ⟨i, h1, h2, _⟩ := (outL_mem M x n).1 hx; rw [h1]; unfold R64; omega
  have hli' := Lib.hid hli
  clear hown
  generalize hxs : outL M n = xs at *
  clear hxs
  obtain ⟨LA, lc, rfl, _, _, hlc⟩ := hli
  have hlc' := Lib.hid hlc
  clear hlc
  generalize hX : (fun i => xs.getD i 0) = X at *
  have hXe : Hid (∀ i, xs.getD i 0 = X i) := fun i => by rw [← hX]
  clear hX
  have hrow0 := Lib.hid (World.rowIs_made w4 (.int .i64 0) n 3)
  have hbw0 := Lib.hid ((Below.refl w4.heap.size w4).alloc (Nat.le_refl _) (.cells (madeCells #[.int .i64 0] n) 3))
  have hcs4 := Lib.hid (fun i hi => (hcs'.out i hi).below hx4.bel hbl)
  have hz4 := hx4.bel.size
  have hq4 := hx4.cells.1.1
  have hrc4 : Hid (∀ k, k < r → ∃ rb ro, Ar = some ⟨rb, ro, none⟩ ∧ rb < w4.heap.size ∧ w4.cell? ⟨rb, ro + k, none⟩ = some (.int .i64 (R k))) := fun k hk => by
    obtain ⟨rb, ro, h1, h2, h3⟩ := hrc'.out (by omega)
    exact ⟨rb, ro, h1, by omega, (hx4.bel.cell (p := ⟨rb, ro + k, none⟩) h2).trans (h3 k hk)⟩
  have hb4w := Lib.hid hx4.bel
  have hlt4 : w.heap.size < w4.heap.size := hx4.cells.1.2
  clear hx4 hx3 hb4 hcs' hrc'
  go_wp2
  clear hmk
  generalize w4.alloc (.cells (madeCells #[.int .i64 0] n) 3) = w5 at *
  go_loopw [36] (fun i wr => ∃ j : Nat, j ≤ xs.length ∧ i = .int .i64 j ∧ Hid (wr.rowIs w4.heap.size 3 n (fun i => .int .i64 (b2i (rootB X j i)))) ∧ Hid (Below w4.heap.size w4 wr)) (fun i _ => xs.length - (intOf i).toNat)
  case atStart => exact ⟨0, Nat.zero_le _, rfl, hrow0.out.congr fun i _ => rfl, hbw0.out⟩
  case round =>
    clear hrow0 hbw0
    obtain ⟨j, hj, rfl, hrow, hbx⟩ := hrel
    by_cases hlt : j < xs.length
    · obtain ⟨lb, lo, rfl, hlb, hlcc⟩ := hlc'.out (by omega)
      obtain ⟨k, hk1, hk2, hk3⟩ := hX1.out j hlt
      have hk1' := (hXe.out j).symm.trans hk1
      have lj := (hbx.out.cell (p := ⟨lb, lo + j, none⟩) hlb).trans (hlcc j hlt)
      rw [hk1'] at lj
      have i1 : decide ((j : Int) < (xs.length : Int)) = true := decide_eq_true (by omega)
      have i2 : decide ((k : Int) < 0) = false := decide_eq_false (by omega)
      have i3 : decide ((n : Int) ≤ (k : Int)) = false := decide_eq_false (by omega)
      have c0 := hrow.out.cell hk2
      have f0 := hrow.out.frozen k
      have hset : Hid ((wr.setCell ⟨w4.heap.size, k, none⟩ (.int .i64 1)).rowIs w4.heap.size 3 n (fun i => .int .i64 (b2i (rootB X (j + 1) i)))) := by
        refine (hrow.out.set k _).congr fun i _ => ?_
        rw [rootB_succ, hk1']
        by_cases e : i = k
        · subst e; simp [b2i]
        · have e' : ((k : Int) == (i : Int)) = false := by simp; omega
          rw [if_neg e, e', Bool.or_false]
      have hkk : (k : Int) < (n : Int) := by omega
      clear hk1
      cases j with
      | zero =>
        rw [Nat.add_zero] at lj
        go_wp2
        go_roundw
        case rel => exact ⟨1, by omega, by go_num, hset.out, hbx.out.setCell (p := ⟨w4.heap.size, k, none⟩) (Nat.le_refl _) _⟩
        case measure => simp [intOf]; omega
      | succ j =>
        obtain ⟨k', hk4, _, _⟩ := hX1.out j (by omega)
        have hup := hX2.out j (j + 1) (by omega) (by omega)
        have hk4' := (hXe.out j).symm.trans hk4
        rw [hk4, hXe.out, hk1'] at hup
        have lj' := (hbx.out.cell (p := ⟨lb, lo + j, none⟩) hlb).trans (hlcc j (by omega))
        rw [hk4'] at lj'
        have i4 : decide ((k : Int) ≤ (k' : Int)) = false := decide_eq_false (by omega)
        clear hk1' hk4 hk4' hlcc
        go_wp2
        go_roundw
        case rel => exact ⟨j + 1 + 1, by omega, by go_num, hset.out, hbx.out.setCell (p := ⟨w4.heap.size, k, none⟩) (Nat.le_refl _) _⟩
        case measure => simp [intOf]; omega
    · have hjl : j = xs.length := by omega
      have hrowM := Lib.hid ((hrow.out).congr fun i hi => by rw [hjl, hX3.out i hi])
      have i1 : decide ((j : Int) < (xs.length : Int)) = false := decide_eq_false (by omega)
      have hzr := hbx.out.size
      clear hrow hX2 hX3
      go_wp2
      clear i1
      go_loopw [68] (fun i wr' => ∃ k : Nat, k ≤ r ∧ i = .int .i64 k ∧ wr' = wr) (fun i _ => r - (intOf i).toNat)
      case atStart => exact ⟨0, Nat.zero_le _, rfl, rfl⟩
      case round =>
        obtain ⟨k, hk, rfl, rfl⟩ := hrel
        by_cases hlt2 : k < r
        · obtain ⟨rb, ro, rfl, hrb, hrk⟩ := hrc4.out k hlt2
          have rk := (hbx.out.cell (p := ⟨rb, ro + k, none⟩) hrb).trans hrk
          obtain ⟨z0, z1⟩ := hrR'.out k hlt2
          have i2 : decide ((k : Int) < (r : Int)) = true := decide_eq_true (by omega)
          by_cases hin : 0 ≤ R k ∧ R k < n
          · obtain ⟨j0, j1⟩ := hin
            have r1 := hrowM.out.cell (i := (R k).toNat) (by omega)
            rw [hroot.out k hlt2 j0 j1] at r1
            simp only [b2i, if_true] at r1
            have j2 : (R k).toNat < n := by omega
            have d1 : decide (0 ≤ R k) = true := decide_eq_true j0
            have d2 : decide (R k < (n : Int)) = true := decide_eq_true j1
            go_wp2
            go_roundw
            case rel => exact ⟨k + 1, by omega, by go_num, trivial⟩
            case measure => simp [intOf]; omega
          · by_cases j0 : 0 ≤ R k
            · have d1 : decide (0 ≤ R k) = true := decide_eq_true j0
              have d2 : decide (R k < (n : Int)) = false := decide_eq_false (by omega)
              go_wp2
              go_roundw
              case rel => exact ⟨k + 1, by omega, by go_num, trivial⟩
              case measure => simp [intOf]; omega
            · have d1 : decide (0 ≤ R k) = false := decide_eq_false j0
              go_wp2
              go_roundw
              case rel => exact ⟨k + 1, by omega, by go_num, trivial⟩
              case measure => simp [intOf]; omega
        · have i2 : decide ((k : Int) < (r : Int)) = false := decide_eq_false (by omega)
          have hkr : k = r := by omega
          go_wp2
          clear i2 hroot hrc4 hrR'
          go_loopw [90] (fun i wr' => ∃ q : Nat, q ≤ xs.length ∧ i = .int .i64 q ∧ wr' = wr) (fun i _ => xs.length - (intOf i).toNat)
          case atStart => exact ⟨0, Nat.zero_le _, rfl, rfl⟩
          case round =>
            obtain ⟨q, hq, rfl, rfl⟩ := hrel
            have qt := (hbx.out.cell (p := ⟨w.heap.size, 0, none⟩) hlt4).trans hq4
            by_cases hlt3 : q < xs.length
            · obtain ⟨lb, lo, rfl, hlb, hlcc⟩ := hlc'.out (by omega)
              obtain ⟨id, hk1, hk2, hk3⟩ := hX1.out q hlt3
              have hk1' := (hXe.out q).symm.trans hk1
              have lj := (hbx.out.cell (p := ⟨lb, lo + q, none⟩) hlb).trans (hlcc q hlt3)
              rw [hk1'] at lj
              have i2 : decide ((q : Int) < (xs.length : Int)) = true := decide_eq_true (by omega)
              have idn : (id : Int) < (n : Int) := by omega
              have hnd := (hcs4.out id hk2).keep fun j => hbx.out.cell (p := ⟨b, j, none⟩) (by show b < _; omega)
              have hst := hch'.out.all id hk2
              have hl0 := hst.len0
              have hl3 := hst.len3
              have hwl : IntKind.i64.wrap (N id).len = (N id).len := by rw [IntKind.wrap_i64]; omega
              have hndl := hnd.2.1
              have hnda := hnd.argc'
              have hcid := hcl.out id hk2 hk3
              clear hst hnd hk1 hk1' hlcc
              go_wp2
              go_loopw [13] (fun i wr' => ∃ p : Nat, (p : Int) ≤ (N id).len ∧ i = .int .i64 p ∧ wr' = wr) (fun i _ => 3 - (intOf i).toNat)
              case atStart => exact ⟨0, by omega, rfl, rfl⟩
              case round =>
                obtain ⟨p, hp, rfl, rfl⟩ := hrel
                by_cases hlt5 : (p : Int) < (N id).len
                · obtain ⟨a0, a1, a2⟩ := hch'.out.argB hk2 hlt5
                  have ap := hnda p a2
                  have hmem := hcid _ (arg_mem N id p hlt5 a2)
                  have r1 := hrowM.out.cell (i := ((N id).arg p).toNat) (by omega)
                  rw [hmem] at r1
                  simp only [b2i, if_true] at r1
                  have i5 : decide ((p : Int) < (N id).len) = true := decide_eq_true hlt5
                  have p3 : (p : Int) < 3 := by omega
                  have an : (N id).arg p < (n : Int) := by omega
                  have an' : ((N id).arg p).toNat < n := by omega
                  clear hnda hcid hmem
                  go_wp2
                  go_roundw
                  case rel => exact ⟨p + 1, by omega, by go_num, trivial⟩
                  case measure => simp [intOf]; omega
                · have i5 : decide ((p : Int) < (N id).len) = false := decide_eq_false hlt5
                  clear hnda hcid
                  go_wp2
                  go_roundw
                  case rel => exact ⟨q + 1, by omega, by go_num, trivial⟩
                  case measure => simp [intOf]; omega
            · have i2 : decide ((q : Int) < (xs.length : Int)) = false := decide_eq_false (by omega)
              have hbw : Below w.heap.size w wr := hb4w.out.trans (hbx.out.mono hb4w.out.size)
              have hbw' := Lib.hid hbw
              have hli6 := Lib.hid (hli'.out.below hbx.out)
              clear hbw
              go_wp2_with fail
              refine (Reach_any _ _ n xs.length N X wr (hv'.out.below hbw'.out) (by omega) hch'.out hli6.out (by omega)).mono ?_
              rintro x w7 ⟨v7, rfl, hown7, hb7⟩
              rw [hag.out] at hown7
              have hli7 := hown7.ints (by omega) (fun x hx => hR7.out x hx)
              have hli8 := hli6.out.below hb7
              obtain ⟨LA7, lc7, e7, _⟩ := id hli7
              subst e7
              have hli7' := Lib.hid hli7
              have hli8' := Lib.hid hli8
              clear hli7 hli8 hown7
              go_wp2_with fail
              refine (IntsQ_any _ _ xs.length xs.length _ X w7 hli7'.out hli8'.out rfl (fun i _ => hXe.out i)).mono ?_
              rintro x w8 ⟨rfl, d8, rfl⟩
              go_wp2_with fail
              refine (wakes05_any _).mono ?_
              rintro x w9 ⟨rfl, hb9⟩
              go_wp2
              go_ret
              refine ⟨rfl, (hbw'.out.trans (hb7.mono hbw'.out.size)).trans ((below_drewN (Below.refl _ _) d8).trans (hb9.mono ?_))⟩
              have := hbw'.out.size
              have := hb7.size
              show w.heap.size ≤ w7.heap.size
              omega

set_option maxHeartbeats 1000000 in
set_option maxRecDepth 100000 in
theorem Reaches_any (v rv : Value) (n r : Nat) (N : Nat → Nd) (R : Nat → Int) (w : World) (hv : NdsAt w v n N) (hr : IntsAt w rv r R) :
    Calls Try.prog 6 #[.agg #[v], rv] w fun x w' => x = .returned (.bool true) ∧ Below w.heap.size w w' := by
  have hv' := Lib.hid hv
  obtain ⟨A, c, rfl, hc, _, _⟩ := hv
  have hx0 := (Bx.nil w).one (.slice A n c) 24
  by_cases hbig : 300 < n
  · have hd : Hid (decide (300 < n) = true) := by unfold Hid; simpa using hbig
    go_enter Try.func6, Try.ntmps6
    go_wp2_with fail
    refine (Great5_any _ n N _ (hv'.out.below hx0.bel)).mono ?_
    rintro x w2 ⟨rfl, hb2⟩
    rw [hd.out]
    go_wp2_with fail
    refine (wakes05_any w2).mono ?_
    rintro x w3 ⟨rfl, hb3⟩
    go_wp2
    go_ret
    exact ⟨rfl, ((hx0.step hb2).step hb3).bel⟩
  have hd : Hid (decide (300 < n) = false) := by unfold Hid; simpa using hbig
  have hn : n ≤ 300 := by omega
  clear hbig
  rcases Classical.em (CheckP n N) with hch | hch
  · by_cases hr2 : r ≤ 50
    · exact Reaches_main (.slice A n c) rv n r N R w hv'.out hr hn hr2 hch
    · have hy := Lib.hid (check_yes hch)
      obtain ⟨Ar, cr, rfl, _, _, _⟩ := hr
      have d50 : decide ((50 : Int) < (r : Int)) = true := decide_eq_true (by omega)
      clear hch
      go_enter Try.func6, Try.ntmps6
      go_wp2_with fail
      refine (Great5_any _ n N _ (hv'.out.below hx0.bel)).mono ?_
      rintro x w2 ⟨rfl, hb2⟩
      rw [hd.out]
      have hx2 := hx0.step hb2
      obtain ⟨⟨q0, _⟩, -⟩ := hx2.cells
      go_wp2_with fail
      refine (RCheck_any _ n N w2 (hv'.out.below hx2.bel) (by omega)).mono ?_
      rintro x w3 ⟨rfl, hb3⟩
      rw [hy.out]
      go_wp2_with fail
      refine (wakes05_any w3).mono ?_
      rintro x w4 ⟨rfl, hb4⟩
      go_wp2
      go_ret
      exact ⟨rfl, ((hx2.step hb3).step hb4).bel⟩
  · have hy := Lib.hid (check_not hch)
    clear hch
    go_enter Try.func6, Try.ntmps6
    go_wp2_with fail
    refine (Great5_any _ n N _ (hv'.out.below hx0.bel)).mono ?_
    rintro x w2 ⟨rfl, hb2⟩
    rw [hd.out]
    have hx2 := hx0.step hb2
    obtain ⟨⟨q0, _⟩, -⟩ := hx2.cells
    go_wp2_with fail
    refine (RCheck_any _ n N w2 (hv'.out.below hx2.bel) (by omega)).mono ?_
    rintro x w3 ⟨rfl, hb3⟩
    rw [hy.out]
    go_wp2_with fail
    refine (wakes05_any w3).mono ?_
    rintro x w4 ⟨rfl, hb4⟩
    go_wp2
    go_ret
    exact ⟨rfl, ((hx2.step hb3).step hb4).bel⟩
end Go.Proofs.Ytoppfcfalciibaa
