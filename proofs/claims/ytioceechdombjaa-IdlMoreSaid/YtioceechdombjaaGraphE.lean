/- graph.relax computes relaxR. -/
import Derived.Test.YtioceechdombjaaGraphD
import Derived.StillTailTactics
import Derived.Deep.DeepCutAuto
import Derived.BigRegion
import Derived.Deep.RegionWith
namespace Go.Proofs.Ytioceechdombjaa
open Go.RowKit
set_option maxRecDepth 100000

/-- What memory holds in a state of the rounds. -/
def RlxW (w0 wr : World) (g1 g2 n m : Nat) (r : SR) : Prop :=
  wr.rowIs g1 3 n (fun j => .int .i64 (r.s.p j)) ∧ wr.rowIs g2 3 n (fun j => .int .i64 (r.s.b j)) ∧ Below w0.heap.size w0 wr ∧ Pin r ∧ (∀ j, -1 ≤ r.s.b j ∧ r.s.b j < m) ∧ r.out = false

set_option maxHeartbeats 800000 in
theorem relax_any (n : Nat) (v : Value) (m : Nat) (E : Nat → Ed) (w : World) (hv : EdsAt w v m E) (hm : m ≤ 1000000) (hn : n ≤ 4096) (hE : EdOk n E m) :
    Calls Try.prog 54 #[.int .i64 n, v] w fun e w' => ∃ u1 u2, e = .returned (.tuple #[u1, u2, .int .i64 (relaxR n E m).fell]) ∧ IntsAt w' u1 n (relaxR n E m).s.p ∧ IntsAt w' u2 n (relaxR n E m).s.b ∧ Below w.heap.size w w' := by
  obtain ⟨A, c, rfl, hn', hr, hc⟩ := hv
  have hc' := Lib.hid hc
  have hr' := Lib.hid hr
  have hE' := Lib.hid hE
  clear hc hr hE
  have hmk := run_make_row' (P := Try.prog) 27 3 (.int .i64 0) 8 Try.underlying27 info_int rfl .i64 .i64 n (by omega) (by omega)
  go_enter Try.func54, Try.ntmps54
  go_wp2
  go_step3
  go_upto_region 1 with (fail)
  go_cut [4, 5] (fun u1 u2 w' => ∃ g1 g2, u1 = .slice (some ⟨g1, 0, none⟩) n n ∧ u2 = .slice (some ⟨g2, 0, none⟩) n n ∧ g1 ≠ g2 ∧ w.heap.size ≤ g1 ∧ w.heap.size ≤ g2 ∧ w'.rowIs g1 3 n (fun _ => .int .i64 0) ∧ w'.rowIs g2 3 n (fun _ => .int .i64 0) ∧ Below w.heap.size w w')
  case first =>
    go_region
    · go_wp2_with fail
      go_meet
      refine ⟨w.heap.size, w.heap.size + 1, rfl, rfl, by omega, by omega, by omega, ?_, ?_, ?_⟩
      · exact ((World.rowIs_made w _ n _).alloc _).drew
      · have h := World.rowIs_made (w.alloc (Obj.cells (madeCells #[Value.int IntKind.i64 0] n) 3)) (.int .i64 0) n 3
        simp only [World.size_alloc] at h
        exact h.drew
      · exact (((Below.refl _ _).alloc (Nat.le_refl _) _).alloc (by simp) _).drew
    · go_wp2_with fail
      go_meet
      refine ⟨w.heap.size + 1, w.heap.size, rfl, rfl, by omega, by omega, by omega, ?_, ?_, ?_⟩
      · have h := World.rowIs_made (w.alloc (Obj.cells (madeCells #[Value.int IntKind.i64 0] n) 3)) (.int .i64 0) n 3
        simp only [World.size_alloc] at h
        exact h.drew
      · exact ((World.rowIs_made w _ n _).alloc _).drew
      · exact (((Below.refl _ _).alloc (Nat.le_refl _) _).alloc (by simp) _).drew
  case rest =>
    obtain ⟨g1, g2, rfl, rfl, hg, hg1, hg2, hp, hby, hb⟩ := hcut
    clear hmk
    go_wp2
    go_loopw [16] (fun i wr => ∃ k : Nat, k ≤ n ∧ i = .int .i64 k ∧ wr.rowIs g1 3 n (fun _ => .int .i64 0) ∧ wr.rowIs g2 3 n (fun j => if j < k then .int .i64 (-1) else .int .i64 0) ∧ Below w.heap.size w wr) (fun i _ => n - (intOf i).toNat)
    case atStart => exact ⟨0, Nat.zero_le _, rfl, hp, hby.congr (fun i hi => by simp), hb⟩
    case round =>
      obtain ⟨k, hk, rfl, hp, hby, hb⟩ := hrel
      by_cases hlt : k < n
      · have c0 := hby.cell hlt
        simp only [Nat.lt_irrefl, if_false] at c0
        have f0 := hby.frozen k
        go_wp2
        go_roundw
        case rel =>
          refine ⟨k + 1, by omega, by go_num, hp.setOther (a := ⟨g2, k, none⟩) hg _, (hby.set k _).congr fun i hi => ?_, hb.setCell (p := ⟨g2, k, none⟩) hg2 _⟩
          by_cases h1 : i = k
          · subst h1; simp
          · by_cases h2 : i < k
            · simp [h1, h2, show i < k + 1 by omega]
            · simp [h1, h2, show ¬ i < k + 1 by omega]
        case measure => simp [intOf]; omega
      · have hby' : wr.rowIs g2 3 n (fun _ => .int .i64 (-1)) := hby.congr fun i hi => by rw [if_pos (by omega)]
        clear hby
        go_wp2
        go_step3
        go_wp2
        go_loopw [4, 5, 6, 25] (fun v4 v5 s i wr => ∃ r : Nat, v4 = .slice (some ⟨g1, 0, none⟩) n n ∧ v5 = .slice (some ⟨g2, 0, none⟩) n n ∧ r ≤ n + 1 ∧ i = .int .i64 r ∧ s = .int .i64 (roundsTo E m r).fell ∧ 0 ≤ (roundsTo E m r).fell ∧ (roundsTo E m r).fell ≤ n ∧ RlxW w wr g1 g2 n m (roundsTo E m r)) (fun _ _ _ i _ => n + 1 - (intOf i).toNat)
        case atStart =>
          exact ⟨0, rfl, rfl, Nat.zero_le _, rfl, rfl, Int.le_refl _, by show (0 : Int) ≤ n; omega, hp, hby', hb, fun j => ⟨by show _ ≤ (0 : Int); omega, Int.le_refl _⟩, fun j => ⟨Int.le_refl _, by show (-1 : Int) < m; omega⟩, rfl⟩
        case round =>
          obtain ⟨r, rfl, rfl, hr1, rfl, rfl, hf0, hf1, hW⟩ := hrel
          by_cases hlt : r < n + 1
          · have hq := Lib.hid (rounds_next hW.2.2.2.2.2 hf0)
            generalize hQ : (roundsTo E m r).s = q at hq
            have hW0 : RlxW w wr g1 g2 n m (scanTo E q 0) := ⟨by have := hW.1; rw [hQ] at this; exact this, by have := hW.2.1; rw [hQ] at this; exact this, hW.2.2.1, by have h := hW.2.2.2.1; unfold Pin at h ⊢; rw [hQ] at h; exact h, by have h := hW.2.2.2.2.1; rw [hQ] at h; exact h, rfl⟩
            clear hW hQ
            have hd : decide ((r : Int) < (n : Int) + 1) = true := by simp; omega
            go_wp2
            go_loopw [4, 5, 6, 29] (fun v4 v5 s i wr => ∃ k : Nat, v4 = .slice (some ⟨g1, 0, none⟩) n n ∧ v5 = .slice (some ⟨g2, 0, none⟩) n n ∧ k ≤ m ∧ i = .int .i64 k ∧ s = .int .i64 (scanTo E q k).fell ∧ -1 ≤ (scanTo E q k).fell ∧ (scanTo E q k).fell < n ∧ RlxW w wr g1 g2 n m (scanTo E q k)) (fun _ _ _ i _ => m - (intOf i).toNat)
            case atStart => exact ⟨0, rfl, rfl, Nat.zero_le _, rfl, rfl, Int.le_refl _, by show (-1 : Int) < n; omega, hW0⟩
            case round =>
              obtain ⟨k, rfl, rfl, hk, rfl, rfl, hf2, hf3, hW⟩ := hrel
              by_cases hlk : k < m
              · obtain ⟨b, o, rfl, hbl, hcs⟩ := hc'.out (by omega)
                obtain ⟨q0, q1, q2⟩ := hcs k hlk
                clear hcs
                obtain ⟨e0, e1, e2, e3, e4, e5⟩ := hE'.out k hlk
                obtain ⟨hp, hby, hb, hpin, hbr, ho⟩ := hW
                have c0 := (hb.cell (p := ⟨b, o + k * 3, none⟩) hbl).trans q0
                have c1 := (hb.cell (p := ⟨b, o + k * 3 + 1, none⟩) hbl).trans q1
                have c2 := (hb.cell (p := ⟨b, o + k * 3 + 2, none⟩) hbl).trans q2
                clear q0 q1 q2
                have hstep := Lib.hid (scan_succ ho)
                generalize hR : scanTo E q k = R at *
                generalize hX : E k = X at *
                have hX' := Lib.hid hX
                have hR' := Lib.hid hR
                clear hR hX
                obtain ⟨x, y, z⟩ := X
                dsimp only at e0 e1 e2 e3 e4 e5 c0 c1 c2
                obtain ⟨x, rfl⟩ := Int.eq_ofNat_of_zero_le e0
                obtain ⟨y, rfl⟩ := Int.eq_ofNat_of_zero_le e2
                have d0 := hp.cell (show x < n by omega)
                have d1 := hp.cell (show y < n by omega)
                have f1 := hp.frozen y
                have d2 := hby.cell (show y < n by omega)
                have f2 := hby.frozen y
                have g1l := hp.lt
                have g2l := hby.lt
                have px := hpin x
                have py := hpin y
                have hbr' := Lib.hid hbr
                have hpin' := Lib.hid hpin
                have hp' := Lib.hid hp
                have hby' := Lib.hid hby
                clear hbr hpin hp hby
                by_cases t0 : R.s.p x + z < R.s.p y
                · have hwr : IntKind.i64.wrap (R.s.p x + z) = R.s.p x + z := IntWalk.i64_in _ (by omega)
                  go_wp2
                  obtain ⟨W1, hW1⟩ : ∃ W1, W1 = wr.alloc (.cells #[.int .i64 (x : Int), .int .i64 (y : Int), .int .i64 z] 82) := ⟨_, rfl⟩
                  have b0 : W1.cell? ⟨wr.heap.size, 0, none⟩ = some (.int .i64 (x : Int)) := by rw [hW1]; simp
                  have b1 : W1.cell? ⟨wr.heap.size, 1, none⟩ = some (.int .i64 (y : Int)) := by rw [hW1]; simp
                  have b2 : W1.cell? ⟨wr.heap.size, 2, none⟩ = some (.int .i64 z) := by rw [hW1]; simp
                  have d0' : W1.cell? ⟨g1, x, none⟩ = some (.int .i64 (R.s.p x)) := by rw [hW1]; exact (World.cell?_alloc_lt _ _ _ g1l).trans d0
                  have d1' : W1.cell? ⟨g1, y, none⟩ = some (.int .i64 (R.s.p y)) := by rw [hW1]; exact (World.cell?_alloc_lt _ _ _ g1l).trans d1
                  have f1' : W1.frozen? ⟨g1, y, none⟩ = false := by rw [hW1]; exact (World.frozen?_alloc_old _ _ _ (by simp; omega)).trans f1
                  rw [← hW1]
                  have hW1' := Lib.hid hW1
                  clear hW1 d0 d1 f1
                  go_still_tail 12, (by kernel_rfl)
                  change wpList _ _ _ _ _ W1.drew
                  go_wp2_with fail
                  refine (less_lt g1 y (R.s.p x + z) (R.s.p y) W1.drew d1' f1' t0).mono ?_
                  rintro e w' ⟨rfl, rfl⟩
                  obtain ⟨W2, hW2⟩ : ∃ W2, W2 = W1.drew.setCell ⟨g1, y, none⟩ (.int .i64 (R.s.p x + z)) := ⟨_, rfl⟩
                  have b1' : W2.cell? ⟨wr.heap.size, 1, none⟩ = some (.int .i64 (y : Int)) := by
                    rw [hW2, World.cell?_setCell_other _ _ _ _ (by intro h; injection h; omega)]; exact b1
                  have d2' : W2.cell? ⟨g2, y, none⟩ = some (.int .i64 (R.s.b y)) := by
                    rw [hW2, World.cell?_setCell_other _ _ _ _ (by intro h; injection h; omega)]
                    show W1.cell? _ = _
                    rw [hW1'.out]; exact (World.cell?_alloc_lt _ _ _ g2l).trans d2
                  have f2' : W2.frozen? ⟨g2, y, none⟩ = false := by
                    rw [hW2, World.frozen?_setCell]
                    show W1.frozen? _ = _
                    rw [hW1'.out]; exact (World.frozen?_alloc_old _ _ _ (by simp; omega)).trans f2
                  have d1'' : W2.cell? ⟨g1, y, none⟩ = some (.int .i64 (R.s.p x + z)) := by
                    rw [hW2]; exact World.cell?_setCell_same _ _ _ d1'
                  rw [← hW2]
                  have hW2' := Lib.hid hW2
                  clear hW2 d2 f2
                  go_wp2
                  go_region
                  have c3 : (W2.setCell ⟨g2, y, none⟩ (.int .i64 (k : Int))).cell? ⟨wr.heap.size, 1, none⟩ = some (.int .i64 (y : Int)) := by
                    rw [World.cell?_setCell_other _ _ _ _ (by intro h; injection h; omega)]; exact b1'
                  have p3 : (W2.setCell ⟨g2, y, none⟩ (.int .i64 (k : Int))).cell? ⟨g1, y, none⟩ = some (.int .i64 (R.s.p x + z)) := by
                    rw [World.cell?_setCell_other _ _ _ _ (by intro h; injection h; omega)]; exact d1''
                  clear b0 b1 b2 d0' d1' f1' b1' d2' f2' d1''
                  have hF : Hid ((W2.setCell ⟨g2, y, none⟩ (.int .i64 (k : Int))).rowIs g1 3 n (fun j => .int .i64 (upd R.s.p y (R.s.p x + z) j)) ∧
                      (W2.setCell ⟨g2, y, none⟩ (.int .i64 (k : Int))).rowIs g2 3 n (fun j => .int .i64 (upd R.s.b y k j)) ∧
                      Below w.heap.size w (W2.setCell ⟨g2, y, none⟩ (.int .i64 (k : Int)))) := by
                    refine ⟨?_, ?_, ?_⟩
                    · rw [hW2'.out, hW1'.out]
                      exact ((((hp'.out.alloc _).drew.set y _).setOther (a := ⟨g2, y, none⟩) hg _).congr fun i _ => by unfold upd; split <;> simp [*])
                    · rw [hW2'.out, hW1'.out]
                      exact ((((hby'.out.alloc _).drew.setOther (a := ⟨g1, y, none⟩) (Ne.symm hg) _).set y _).congr fun i _ => by unfold upd; split <;> simp [*])
                    · rw [hW2'.out, hW1'.out]
                      exact (((hb.alloc hb.size _).drew.setCell (p := ⟨g1, y, none⟩) hg1 _).setCell (p := ⟨g2, y, none⟩) hg2 _)
                  clear hp' hby' hW1' hW2'
                  by_cases t1 : R.s.p x + z < -4611686018427387904
                  · go_wp2
                    go_region
                    have hst : Hid (relaxR n E m = ⟨⟨upd R.s.p y (R.s.p x + z), upd R.s.b y k⟩, y, true⟩) :=
                      final_out hq.out hlk (hstep.out.trans (edge_out (e := ⟨x, y, z⟩) t0 t1)) rfl hlt
                    go_wp2
                    rw [Exit.noGoto_ret]
                    go_ret3
                    rw [hst.out]
                    refine ⟨_, _, rfl, ?_, ?_, hF.out.2.2.drew.drew⟩
                    · refine IntsAt.of_row hF.out.1.drew.drew (Nat.le_refl _) (by omega) (fun i hi => ?_) (fun i hi => rfl) _
                      show R64 (upd R.s.p y (R.s.p x + z) i)
                      have := hpin'.out i
                      unfold upd R64; split <;> omega
                    · refine IntsAt.of_row hF.out.2.1.drew.drew (Nat.le_refl _) (by omega) (fun i hi => ?_) (fun i hi => rfl) _
                      show R64 (upd R.s.b y k i)
                      have := hbr'.out i
                      unfold upd R64; split <;> omega
                  · have hst : Hid (scanTo E q (k + 1) = ⟨⟨upd R.s.p y (R.s.p x + z), upd R.s.b y k⟩, y, false⟩) :=
                      hstep.out.trans (edge_in (e := ⟨x, y, z⟩) t0 (show -4611686018427387904 ≤ R.s.p x + z by omega))
                    go_wp2
                    go_roundw
                    case rel =>
                      refine ⟨k + 1, rfl, rfl, by omega, by go_num, by rw [hst.out], by rw [hst.out]; show -1 ≤ (y : Int); omega, by rw [hst.out]; show (y : Int) < n; omega, ?_⟩
                      rw [hst.out]
                      refine ⟨hF.out.1.drew, hF.out.2.1.drew, hF.out.2.2.drew, ?_, ?_, rfl⟩
                      · exact hpin'.out.upd (by omega) (by omega)
                      · intro j
                        show -1 ≤ upd R.s.b y k j ∧ upd R.s.b y k j < m
                        unfold upd
                        split
                        · omega
                        · exact hbr'.out j
                    case measure => simp [intOf]; omega
                · have t0' : R.s.p y ≤ R.s.p x + z := by omega
                  clear t0
                  have hwr : IntKind.i64.wrap (R.s.p x + z) = R.s.p x + z := IntWalk.i64_in _ (by omega)
                  have hst : Hid (scanTo E q (k + 1) = R) := hstep.out.trans (edge_ge (e := ⟨x, y, z⟩) t0')
                  go_wp2
                  obtain ⟨W1, hW1⟩ : ∃ W1, W1 = wr.alloc (.cells #[.int .i64 (x : Int), .int .i64 (y : Int), .int .i64 z] 82) := ⟨_, rfl⟩
                  have b0 : W1.cell? ⟨wr.heap.size, 0, none⟩ = some (.int .i64 (x : Int)) := by rw [hW1]; simp
                  have b1 : W1.cell? ⟨wr.heap.size, 1, none⟩ = some (.int .i64 (y : Int)) := by rw [hW1]; simp
                  have b2 : W1.cell? ⟨wr.heap.size, 2, none⟩ = some (.int .i64 z) := by rw [hW1]; simp
                  have d0' : W1.cell? ⟨g1, x, none⟩ = some (.int .i64 (R.s.p x)) := by rw [hW1]; exact (World.cell?_alloc_lt _ _ _ g1l).trans d0
                  have d1' : W1.cell? ⟨g1, y, none⟩ = some (.int .i64 (R.s.p y)) := by rw [hW1]; exact (World.cell?_alloc_lt _ _ _ g1l).trans d1
                  rw [← hW1]
                  have hW1' := Lib.hid hW1
                  clear hW1 d0 d1 f1 d2 f2
                  go_still_tail 12, (by kernel_rfl)
                  change wpList _ _ _ _ _ W1.drew
                  go_wp2_with fail
                  refine (less_ge g1 y (R.s.p x + z) (R.s.p y) W1.drew d1' t0').mono ?_
                  rintro e w' ⟨rfl, rfl⟩
                  go_wp2
                  go_roundw
                  case rel =>
                    refine ⟨k + 1, rfl, rfl, by omega, by go_num, by rw [hst.out], by rw [hst.out]; exact hf2, by rw [hst.out]; exact hf3, ?_⟩
                    rw [hst.out, hW1'.out]
                    exact ⟨(hp'.out.alloc _).drew, (hby'.out.alloc _).drew, (hb.alloc hb.size _).drew, hpin'.out, hbr'.out, ho⟩
                  case measure => simp [intOf]; omega
              · obtain rfl : k = m := by omega
                have hW' := Lib.hid hW
                clear hW
                by_cases hfl : (scanTo E q k).fell < 0
                · have hst := Lib.hid (final_fell hq.out hfl hlt)
                  go_wp2
                  rw [Exit.noGoto_ret]
                  go_ret3
                  rw [hst.out]
                  exact ⟨_, _, rfl, IntsAt.of_row hW'.out.1 (Nat.le_refl _) (by omega) (fun i _ => by have := hW'.out.2.2.2.1 i; unfold R64; omega) (fun i _ => rfl) _,
                    IntsAt.of_row hW'.out.2.1 (Nat.le_refl _) (by omega) (fun i _ => by have := hW'.out.2.2.2.2.1 i; unfold R64; omega) (fun i _ => rfl) _, hW'.out.2.2.1⟩
                · go_wp2
                  go_roundw
                  case rel => exact ⟨r + 1, rfl, rfl, by omega, by go_num, by rw [hq.out], by rw [hq.out]; omega, by rw [hq.out]; omega, by rw [hq.out]; exact hW'.out⟩
                  case measure => simp [intOf]; omega
          · obtain rfl : r = n + 1 := by omega
            have hW' := Lib.hid hW
            clear hW
            go_wp2
            rw [Exit.noGoto_ret]
            go_ret3
            exact ⟨_, _, rfl, IntsAt.of_row hW'.out.1 (Nat.le_refl _) (by omega) (fun i _ => by have := hW'.out.2.2.2.1 i; unfold R64; omega) (fun i _ => rfl) _,
              IntsAt.of_row hW'.out.2.1 (Nat.le_refl _) (by omega) (fun i _ => by have := hW'.out.2.2.2.2.1 i; unfold R64; omega) (fun i _ => rfl) _, hW'.out.2.2.1⟩
end Go.Proofs.Ytioceechdombjaa
