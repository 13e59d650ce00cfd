/- graph.relax computes relaxR. -/
import Derived.Test.YtioceechdombjaaZWordsGraphAGraphD
import Derived.StillTailTactics
import Derived.Deep.DeepCutAuto
import Derived.BigRegion
import Derived.Deep.RegionWith
import Derived.Test.YtioceechdombjaaZSumGraphB
import Derived.Test.YtioceechdombjaaZBellBellBBellC
namespace Go.Proofs.Ytioceechdombjaa
open Go.RowKit
set_option maxRecDepth 100000

/-- What memory holds in a state of the rounds. -/
def RlxW (w0 wr : World) (g1 g2 n m : Nat) (r : SR) : Prop :=
  wr.rowIs g1 3 n (fun j => .int .i64 (r.s.p j)) ∧ wr.rowIs g2 3 n (fun j => .int .i64 (r.s.b j)) ∧ Below w0.heap.size w0 wr ∧ Pin r ∧ (∀ j, -1 ≤ r.s.b j ∧ r.s.b j < m) ∧ r.out = false

set_option maxHeartbeats 800000 in
theorem relax_any (n : Nat) (v : Value) (m : Nat) (E : Nat → Ed) (w : World) (hv : EdsAt w v m E) (hm : m ≤ 1000000) (hn : n ≤ 4096) (hE : EdOk n E m) :
    Calls Try.prog 54 #[.int .i64 n, v] w fun e w' => ∃ u1 u2, e = .returned (.tuple #[u1, u2, .int .i64 (relaxR n E m).fell]) ∧ IntsAt w' u1 n (relaxR n E m).s.p ∧ IntsAt w' u2 n (relaxR n E m).s.b ∧ Below w.heap.size w w' := by
  obtain ⟨A, c, rfl, hn', hr, hc⟩ := hv
  have hc' := Lib.hid hc
  have hr' := Lib.hid hr
  have hE' := Lib.hid hE
  clear hc hr hE
  have hmk := run_make_row' (P := Try.prog) 27 3 (.int .i64 0) 8 Try.underlying27 info_int rfl .i64 .i64 n (by omega) (by omega)
  go_enter Try.func54, Try.ntmps54
  go_wp2
  go_step3
  go_upto_region 1 with (fail)
  go_cut [4, 5] (fun u1 u2 w' => ∃ g1 g2, u1 = .slice (some ⟨g1, 0, none⟩) n n ∧ u2 = .slice (some ⟨g2, 0, none⟩) n n ∧ g1 ≠ g2 ∧ w.heap.size ≤ g1 ∧ w.heap.size ≤ g2 ∧ w'.rowIs g1 3 n (fun _ => .int .i64 0) ∧ w'.rowIs g2 3 n (fun _ => .int .i64 0) ∧ Below w.heap.size w w')
  case first =>
    go_region
    · go_wp2_with fail
      go_meet
      refine ⟨w.heap.size, w.heap.size + 1, rfl, rfl, by omega, by omega, by omega, ?_, ?_, ?_⟩
      · exact ((World.rowIs_made w _ n _).alloc _).drew
      · have h := World.rowIs_made (w.alloc (Obj.cells (madeCells #[Value.int IntKind.i64 0] n) 3)) (.int .i64 0) n 3
        simp only [World.size_alloc] at h
        exact h.drew
      · exact (((Below.refl _ _).alloc (Nat.le_refl _) _).alloc (by simp) _).drew
    · go_wp2_with fail
      go_meet
      refine ⟨w.heap.size + 1, w.heap.size, rfl, rfl, by omega, by omega, by omega, ?_, ?_, ?_⟩
      · have h := World.rowIs_made (w.alloc (Obj.cells (madeCells #[Value.int IntKind.i64 0] n) 3)) (.int .i64 0) n 3
        simp only [World.size_alloc] at h
        exact h.drew
      · exact ((World.rowIs_made w _ n _).alloc _).drew
      · exact (((Below.refl _ _).alloc (Nat.le_refl _) _).alloc (by simp) _).drew
  case rest =>
    obtain ⟨g1, g2, rfl, rfl, hg, hg1, hg2, hp, hby, hb⟩ := hcut
    clear hmk
    go_wp2
    go_loopw [16] (fun i wr => ∃ k : Nat, k ≤ n ∧ i = .int .i64 k ∧ wr.rowIs g1 3 n (fun _ => .int .i64 0) ∧ wr.rowIs g2 3 n (fun j => if j < k then .int .i64 (-1) else .int .i64 0) ∧ Below w.heap.size w wr) (fun i _ => n - (intOf i).toNat)
    case atStart => exact ⟨0, Nat.zero_le _, rfl, hp, hby.congr (fun i hi => by simp), hb⟩
    case round =>
      obtain ⟨k, hk, rfl, hp, hby, hb⟩ := hrel
      by_cases hlt : k < n
      · have c0 := hby.cell hlt
        simp only [Nat.lt_irrefl, if_false] at c0
        have f0 := hby.frozen k
        go_wp2
        go_roundw
        case rel =>
          refine ⟨k + 1, by omega, by go_num, hp.setOther (a := ⟨g2, k, none⟩) hg _, (hby.set k _).congr fun i hi => ?_, hb.setCell (p := ⟨g2, k, none⟩) hg2 _⟩
          by_cases h1 : i = k
          · subst h1; simp
          · by_cases h2 : i < k
            · simp [h1, h2, show i < k + 1 by omega]
            · simp [h1, h2, show ¬ i < k + 1 by omega]
        case measure => simp [intOf]; omega
      · have hby' : wr.rowIs g2 3 n (fun _ => .int .i64 (-1)) := hby.congr fun i hi => by rw [if_pos (by omega)]
        clear hby
        go_wp2
        go_step3
        go_wp2
        go_loopw [4, 5, 6, 25] (fun v4 v5 s i wr => ∃ r : Nat, v4 = .slice (some ⟨g1, 0, none⟩) n n ∧ v5 = .slice (some ⟨g2, 0, none⟩) n n ∧ r ≤ n + 1 ∧ i = .int .i64 r ∧ s = .int .i64 (roundsTo E m r).fell ∧ 0 ≤ (roundsTo E m r).fell ∧ (roundsTo E m r).fell ≤ n ∧ RlxW w wr g1 g2 n m (roundsTo E m r)) (fun _ _ _ i _ => n + 1 - (intOf i).toNat)
        case atStart =>
          exact ⟨0, rfl, rfl, Nat.zero_le _, rfl, rfl, Int.le_refl _, by show (0 : Int) ≤ n; omega, hp, hby', hb, fun j => ⟨by show _ ≤ (0 : Int); omega, Int.le_refl _⟩, fun j => ⟨Int.le_refl _, by show (-1 : Int) < m; omega⟩, rfl⟩
        case round =>
          obtain ⟨r, rfl, rfl, hr1, rfl, rfl, hf0, hf1, hW⟩ := hrel
          by_cases hlt : r < n + 1
          · have hq := Lib.hid (rounds_next hW.2.2.2.2.2 hf0)
            generalize hQ : (roundsTo E m r).s = q at hq
            have hW0 : RlxW w wr g1 g2 n m (scanTo E q 0) := ⟨by have := hW.1; rw [hQ] at this; exact this, by have := hW.2.1; rw [hQ] at this; exact this, hW.2.2.1, by have h := hW.2.2.2.1; unfold Pin at h ⊢; rw [hQ] at h; exact h, by have h := hW.2.2.2.2.1; rw [hQ] at h; exact h, rfl⟩
            clear hW hQ
            have hd : decide ((r : Int) < (n : Int) + 1) = true := by simp; omega
            go_wp2
            go_loopw [4, 5, 6, 29] (fun v4 v5 s i wr => ∃ k : Nat, v4 = .slice (some ⟨g1, 0, none⟩) n n ∧ v5 = .slice (some ⟨g2, 0, none⟩) n n ∧ k ≤ m ∧ i = .int .i64 k ∧ s = .int .i64 (scanTo E q k).fell ∧ -1 ≤ (scanTo E q k).fell ∧ (scanTo E q k).fell < n ∧ RlxW w wr g1 g2 n m (scanTo E q k)) (fun _ _ _ i _ => m - (intOf i).toNat)
            case atStart => exact ⟨0, rfl, rfl, Nat.zero_le _, rfl, rfl, Int.le_refl _, by show (-1 : Int) < n; omega, hW0⟩
            case round =>
              obtain ⟨k, rfl, rfl, hk, rfl, rfl, hf2, hf3, hW⟩ := hrel
              by_cases hlk : k < m
              · obtain ⟨b, o, rfl, hbl, hcs⟩ := hc'.out (by omega)
                obtain ⟨q0, q1, q2⟩ := hcs k hlk
                clear hcs
                obtain ⟨e0, e1, e2, e3, e4, e5⟩ := hE'.out k hlk
                obtain ⟨hp, hby, hb, hpin, hbr, ho⟩ := hW
                have c0 := (hb.cell (p := ⟨b, o + k * 3, none⟩) hbl).trans q0
                have c1 := (hb.cell (p := ⟨b, o + k * 3 + 1, none⟩) hbl).trans q1
                have c2 := (hb.cell (p := ⟨b, o + k * 3 + 2, none⟩) hbl).trans q2
                clear q0 q1 q2
                have hstep := Lib.hid (scan_succ ho)
                generalize hR : scanTo E q k = R at *
                generalize hX : E k = X at *
                have hX' := Lib.hid hX
                have hR' := Lib.hid hR
                clear hR hX
                obtain ⟨x, y, z⟩ := X
                dsimp only at e0 e1 e2 e3 e4 e5 c0 c1 c2
                obtain ⟨x, rfl⟩ := Int.eq_ofNat_of_zero_le e0
                obtain ⟨y, rfl⟩ := Int.eq_ofNat_of_zero_le e2
                have d0 := hp.cell (show x < n by omega)
                have d1 := hp.cell (show y < n by omega)
                have f1 := hp.frozen y
                have d2 := hby.cell (show y < n by omega)
                have f2 := hby.frozen y
                have g1l := hp.lt
                have g2l := hby.lt
                have px := hpin x
                have py := hpin y
                have hbr' := Lib.hid hbr
                have hpin' := Lib.hid hpin
                have hp' := Lib.hid hp
                have hby' := Lib.hid hby
                clear hbr hpin hp hby
                by_cases t0 : R.s.p x + z < R.s.p y
                · have hwr : IntKind.i64.wrap (R.s.p x + z) = R.s.p x + z := IntWalk.i64_in _ (by omega)
                  go_wp2
                  obtain ⟨W1, hW1⟩ : ∃ W1, W1 = wr.alloc (.cells #[.int .i64 (x : Int), .int .i64 (y : Int), .int .i64 z] 82) := ⟨_, rfl⟩
                  have b0 : W1.cell? ⟨wr.heap.size, 0, none⟩ = some (.int .i64 (x : Int)) := by rw [hW1]; simp
                  have b1 : W1.cell? ⟨wr.heap.size, 1, none⟩ = some (.int .i64 (y : Int)) := by rw [hW1]; simp
                  have b2 : W1.cell? ⟨wr.heap.size, 2, none⟩ = some (.int .i64 z) := by rw [hW1]; simp
                  have d0' : W1.cell? ⟨g1, x, none⟩ = some (.int .i64 (R.s.p x)) := by rw [hW1]; exact (World.cell?_alloc_lt _ _ _ g1l).trans d0
                  have d1' : W1.cell? ⟨g1, y, none⟩ = some (.int .i64 (R.s.p y)) := by rw [hW1]; exact (World.cell?_alloc_lt _ _ _ g1l).trans d1
                  have f1' : W1.frozen? ⟨g1, y, none⟩ = false := by rw [hW1]; exact (World.frozen?_alloc_old _ _ _ (by simp; omega)).trans f1
                  rw [← hW1]
                  have hW1' := Lib.hid hW1
                  clear hW1 d0 d1 f1
                  go_still_tail 12, (by kernel_rfl)
                  change wpList _ _ _ _ _ W1.drew
                  go_wp2_with fail
                  refine (less_lt g1 y (R.s.p x + z) (R.s.p y) W1.drew d1' f1' t0).mono ?_
                  rintro e w' ⟨rfl, rfl⟩
                  obtain ⟨W2, hW2⟩ : ∃ W2, W2 = W1.drew.setCell ⟨g1, y, none⟩ (.int .i64 (R.s.p x + z)) := ⟨_, rfl⟩
                  have b1' : W2.cell? ⟨wr.heap.size, 1, none⟩ = some (.int .i64 (y : Int)) := by
                    rw [hW2, World.cell?_setCell_other _ _ _ _ (by intro h; injection h; omega)]; exact b1
                  have d2' : W2.cell? ⟨g2, y, none⟩ = some (.int .i64 (R.s.b y)) := by
                    rw [hW2, World.cell?_setCell_other _ _ _ _ (by intro h; injection h; omega)]
                    show W1.cell? _ = _
                    rw [hW1'.out]; exact (World.cell?_alloc_lt _ _ _ g2l).trans d2
                  have f2' : W2.frozen? ⟨g2, y, none⟩ = false := by
                    rw [hW2, World.frozen?_setCell]
                    show W1.frozen? _ = _
                    rw [hW1'.out]; exact (World.frozen?_alloc_old _ _ _ (by simp; omega)).trans f2
                  have d1'' : W2.cell? ⟨g1, y, none⟩ = some (.int .i64 (R.s.p x + z)) := by
                    rw [hW2]; exact World.cell?_setCell_same _ _ _ d1'
                  rw [← hW2]
                  have hW2' := Lib.hid hW2
                  clear hW2 d2 f2
                  go_wp2
                  go_region
                  have c3 : (W2.setCell ⟨g2, y, none⟩ (.int .i64 (k : Int))).cell? ⟨wr.heap.size, 1, none⟩ = some (.int .i64 (y : Int)) := by
                    rw [World.cell?_setCell_other _ _ _ _ (by intro h; injection h; omega)]; exact b1'
                  have p3 : (W2.setCell ⟨g2, y, none⟩ (.int .i64 (k : Int))).cell? ⟨g1, y, none⟩ = some (.int .i64 (R.s.p x + z)) := by
                    rw [World.cell?_setCell_other _ _ _ _ (by intro h; injection h; omega)]; exact d1''
                  clear b0 b1 b2 d0' d1' f1' b1' d2' f2' d1''
                  have hF : Hid ((W2.setCell ⟨g2, y, none⟩ (.int .i64 (k : Int))).rowIs g1 3 n (fun j => .int .i64 (upd R.s.p y (R.s.p x + z) j)) ∧
                      (W2.setCell ⟨g2, y, none⟩ (.int .i64 (k : Int))).rowIs g2 3 n (fun j => .int .i64 (upd R.s.b y k j)) ∧
                      Below w.heap.size w (W2.setCell ⟨g2, y, none⟩ (.int .i64 (k : Int)))) := by
                    refine ⟨?_, ?_, ?_⟩
                    · rw [hW2'.out, hW1'.out]
                      exact ((((hp'.out.alloc _).drew.set y _).setOther (a := ⟨g2, y, none⟩) hg _).congr fun i _ => by unfold upd; split <;> simp [*])
                    · rw [hW2'.out, hW1'.out]
                      exact ((((hby'.out.alloc _).drew.setOther (a := ⟨g1, y, none⟩) (Ne.symm hg) _).set y _).congr fun i _ => by unfold upd; split <;> simp [*])
                    · rw [hW2'.out, hW1'.out]
                      exact (((hb.alloc hb.size _).drew.setCell (p := ⟨g1, y, none⟩) hg1 _).setCell (p := ⟨g2, y, none⟩) hg2 _)
                  clear hp' hby' hW1' hW2'
                  by_cases t1 : R.s.p x + z < -4611686018427387904
                  · go_wp2
                    go_region
                    have hst : Hid (relaxR n E m = ⟨⟨upd R.s.p y (R.s.p x + z), upd R.s.b y k⟩, y, true⟩) :=
                      final_out hq.out hlk (hstep.out.trans (edge_out (e := ⟨x, y, z⟩) t0 t1)) rfl hlt
                    go_wp2
                    rw [Exit.noGoto_ret]
                    go_ret3
                    rw [hst.out]
                    refine ⟨_, _, rfl, ?_, ?_, hF.out.2.2.drew.drew⟩
                    · refine IntsAt.of_row hF.out.1.drew.drew (Nat.le_refl _) (by omega) (fun i hi => ?_) (fun i hi => rfl) _
                      show R64 (upd R.s.p y (R.s.p x + z) i)
                      have := hpin'.out i
                      unfold upd R64; split <;> omega
                    · refine IntsAt.of_row hF.out.2.1.drew.drew (Nat.le_refl _) (by omega) (fun i hi => ?_) (fun i hi => rfl) _
                      show R64 (upd R.s.b y k i)
                      have := hbr'.out i
                      unfold upd R64; split <;> omega
                  · have hst : Hid (scanTo E q (k + 1) = ⟨⟨upd R.s.p y (R.s.p x + z), upd R.s.b y k⟩, y, false⟩) :=
                      hstep.out.trans (edge_in (e := ⟨x, y, z⟩) t0 (show -4611686018427387904 ≤ R.s.p x + z by omega))
                    go_wp2
                    go_roundw
                    case rel =>
                      refine ⟨k + 1, rfl, rfl, by omega, by go_num, by rw [hst.out], by rw [hst.out]; show -1 ≤ (y : Int); omega, by rw [hst.out]; show (y : Int) < n; omega, ?_⟩
                      rw [hst.out]
                      refine ⟨hF.out.1.drew, hF.out.2.1.drew, hF.out.2.2.drew, ?_, ?_, rfl⟩
                      · exact hpin'.out.upd (by omega) (by omega)
                      · intro j
                        show -1 ≤ upd R.s.b y k j ∧ upd R.s.b y k j < m
                        unfold upd
                        split
                        · omega
                        · exact hbr'.out j
                    case measure => simp [intOf]; omega
                · have t0' : R.s.p y ≤ R.s.p x + z := by omega
                  clear t0
                  have hwr : IntKind.i64.wrap (R.s.p x + z) = R.s.p x + z := IntWalk.i64_in _ (by omega)
                  have hst : Hid (scanTo E q (k + 1) = R) := hstep.out.trans (edge_ge (e := ⟨x, y, z⟩) t0')
                  go_wp2
                  obtain ⟨W1, hW1⟩ : ∃ W1, W1 = wr.alloc (.cells #[.int .i64 (x : Int), .int .i64 (y : Int), .int .i64 z] 82) := ⟨_, rfl⟩
                  have b0 : W1.cell? ⟨wr.heap.size, 0, none⟩ = some (.int .i64 (x : Int)) := by rw [hW1]; simp
                  have b1 : W1.cell? ⟨wr.heap.size, 1, none⟩ = some (.int .i64 (y : Int)) := by rw [hW1]; simp
                  have b2 : W1.cell? ⟨wr.heap.size, 2, none⟩ = some (.int .i64 z) := by rw [hW1]; simp
                  have d0' : W1.cell? ⟨g1, x, none⟩ = some (.int .i64 (R.s.p x)) := by rw [hW1]; exact (World.cell?_alloc_lt _ _ _ g1l).trans d0
                  have d1' : W1.cell? ⟨g1, y, none⟩ = some (.int .i64 (R.s.p y)) := by rw [hW1]; exact (World.cell?_alloc_lt _ _ _ g1l).trans d1
                  rw [← hW1]
                  have hW1' := Lib.hid hW1
                  clear hW1 d0 d1 f1 d2 f2
                  go_still_tail 12, (by kernel_rfl)
                  change wpList _ _ _ _ _ W1.drew
                  go_wp2_with fail
                  refine (less_ge g1 y (R.s.p x + z) (R.s.p y) W1.drew d1' t0').mono ?_
                  rintro e w' ⟨rfl, rfl⟩
                  go_wp2
                  go_roundw
                  case rel =>
                    refine ⟨k + 1, rfl, rfl, by omega, by go_num, by rw [hst.out], by rw [hst.out]; exact hf2, by rw [hst.out]; exact hf3, ?_⟩
                    rw [hst.out, hW1'.out]
                    exact ⟨(hp'.out.alloc _).drew, (hby'.out.alloc _).drew, (hb.alloc hb.size _).drew, hpin'.out, hbr'.out, ho⟩
                  case measure => simp [intOf]; omega
              · obtain rfl : k = m := by omega
                have hW' := Lib.hid hW
                clear hW
                by_cases hfl : (scanTo E q k).fell < 0
                · have hst := Lib.hid (final_fell hq.out hfl hlt)
                  go_wp2
                  rw [Exit.noGoto_ret]
                  go_ret3
                  rw [hst.out]
                  exact ⟨_, _, rfl, IntsAt.of_row hW'.out.1 (Nat.le_refl _) (by omega) (fun i _ => by have := hW'.out.2.2.2.1 i; unfold R64; omega) (fun i _ => rfl) _,
                    IntsAt.of_row hW'.out.2.1 (Nat.le_refl _) (by omega) (fun i _ => by have := hW'.out.2.2.2.2.1 i; unfold R64; omega) (fun i _ => rfl) _, hW'.out.2.2.1⟩
                · go_wp2
                  go_roundw
                  case rel => exact ⟨r + 1, rfl, rfl, by omega, by go_num, by rw [hq.out], by rw [hq.out]; omega, by rw [hq.out]; omega, by rw [hq.out]; exact hW'.out⟩
                  case measure => simp [intOf]; omega
          · obtain rfl : r = n + 1 := by omega
            have hW' := Lib.hid hW
            clear hW
            go_wp2
            rw [Exit.noGoto_ret]
            go_ret3
            exact ⟨_, _, rfl, IntsAt.of_row hW'.out.1 (Nat.le_refl _) (by omega) (fun i _ => by have := hW'.out.2.2.2.1 i; unfold R64; omega) (fun i _ => rfl) _,
              IntsAt.of_row hW'.out.2.1 (Nat.le_refl _) (by omega) (fun i _ => by have := hW'.out.2.2.2.2.1 i; unfold R64; omega) (fun i _ => rfl) _, hW'.out.2.2.1⟩
end Go.Proofs.Ytioceechdombjaa

namespace Go.Proofs.Ytioceechdombjaa
open Go.RowKit

def badR (n : Int) (m : Nat) (E : Nat → Ed) : Bool := decide (checkR n m E = 0 ∧ 0 ≤ (relaxR n.toNat E m).fell)
def lenR (n : Int) (m : Nat) (E : Nat → Ed) : Nat := if checkR n m E = 0 ∧ (relaxR n.toNat E m).fell < 0 then n.toNat else 0
def potR (n : Int) (m : Nat) (E : Nat → Ed) : Nat → Int := (relaxR n.toNat E m).s.p

theorem sumTo_some {f : Nat → Int} {m : Int} {n : Nat} (h : sumTo f m n ≠ none) : ∀ i, i < n → -4611686018427387904 ≤ f i ∧ f i ≤ 4611686018427387904 := by
  induction n with
  | zero => intro i hi; omega
  | succ n ih =>
    intro i hi
    cases hs : sumTo f m n with
    | none => exact absurd (sumTo_none hs (by omega)) h
    | some s =>
      by_cases e : i = n
      · subst e
        rw [sumTo_succ hs] at h
        by_cases hc : (f i ≤ 4611686018427387904 ∧ -4611686018427387904 ≤ f i) ∧ (f i < m - s ∧ - f i < m - s)
        · omega
        · rw [if_neg hc] at h; exact absurd rfl h
      · exact ih (by rw [hs]; simp) i (by omega)
theorem check_ok {n : Int} {m : Nat} {E : Nat → Ed} (h : checkR n m E = 0) : 0 ≤ n ∧ n ≤ 4096 ∧ EdOk n.toNat E m ∧ sumTo (fun i => (E i).wt) 4611686018427387904 m ≠ none := by
  unfold checkR at h
  by_cases h1 : n < 0 ∨ 4096 < n
  · rw [if_pos h1] at h; omega
  rw [if_neg h1] at h
  by_cases h2 : edsB n E m = false
  · rw [if_pos h2] at h; omega
  rw [if_neg h2] at h
  by_cases h3 : sumTo (fun i => (E i).wt) 4611686018427387904 m = none
  · rw [if_pos h3] at h; omega
  refine ⟨by omega, by omega, fun i hi => ?_, h3⟩
  have := (edsB_iff n E m).1 (by simpa using h2) i hi
  have := sumTo_some h3 i hi
  omega

set_option maxHeartbeats 400000 in
theorem Pots_any (n : Int) (v : Value) (m : Nat) (E : Nat → Ed) (w : World) (hv : EdsAt w v m E) (hm : m ≤ 1000000) (hn0 : -9223372036854775808 ≤ n) (hn1 : n ≤ 9223372036854775807) :
    Calls Try.prog 31 #[.int .i64 n, v] w fun e w' => ∃ u, e = .returned (.tuple #[u, .bool (badR n m E), .int .i64 (checkR n m E)]) ∧ IntsAt w' u (lenR n m E) (potR n m E) ∧ Below w.heap.size w w' := by
  have hv' := Lib.hid hv
  clear hv
  by_cases hc : checkR n m E = 0
  · obtain ⟨k0, k1, hE, hs⟩ := check_ok hc
    obtain ⟨k, rfl⟩ := Int.eq_ofNat_of_zero_le k0
    have hE' := Lib.hid hE
    clear hE hs
    by_cases hf : 0 ≤ (relaxR k E m).fell
    · have hb : Hid (badR k m E = true) := by unfold badR Hid; simp [hc, hf]
      have hl : Hid (lenR k m E = 0) := by unfold lenR Hid; simp; omega
      have hc' := Lib.hid hc
      clear hc
      go_enter Try.func31, Try.ntmps31
      go_wp2_with fail
      refine (GCheck_any _ _ _ _ _ hv'.out hm (by omega) (by omega)).mono ?_
      rintro e w1 ⟨rfl, hb1⟩
      rw [hc'.out]
      go_wp2_with fail
      refine (relax_any k _ m E _ (hv'.out.below hb1) hm (by omega) hE'.out).mono ?_
      rintro e w2 ⟨u1, u2, rfl, hu1, hu2, hb2⟩
      go_wp2
      go_ret3
      rw [hb.out, hl.out, hc'.out]
      exact ⟨_, rfl, ⟨none, 0, rfl, by omega, fun i hi => by omega, fun h => by omega⟩, hb1.trans (hb2.mono hb1.size)⟩
    · have hb : Hid (badR k m E = false) := by unfold badR Hid; simp; omega
      have hl : Hid (lenR k m E = k) := by unfold lenR Hid; rw [if_pos ⟨hc, by simpa using hf⟩]; simp
      have hc' := Lib.hid hc
      clear hc
      go_enter Try.func31, Try.ntmps31
      go_wp2_with fail
      refine (GCheck_any _ _ _ _ _ hv'.out hm (by omega) (by omega)).mono ?_
      rintro e w1 ⟨rfl, hb1⟩
      rw [hc'.out]
      go_wp2_with fail
      refine (relax_any k _ m E _ (hv'.out.below hb1) hm (by omega) hE'.out).mono ?_
      rintro e w2 ⟨u1, u2, rfl, hu1, hu2, hb2⟩
      go_wp2
      go_ret3
      rw [hb.out, hl.out, hc'.out]
      exact ⟨_, rfl, hu1, hb1.trans (hb2.mono hb1.size)⟩
  · have hb : Hid (badR n m E = false) := by unfold badR Hid; simp [hc]
    have hl : Hid (lenR n m E = 0) := by unfold lenR Hid; simp [hc]
    have hc' : (checkR n m E != 0) = true := by simpa using hc
    go_enter Try.func31, Try.ntmps31
    go_wp2_with fail
    refine (GCheck_any _ _ _ _ _ hv'.out hm (by omega) (by omega)).mono ?_
    rintro e w1 ⟨rfl, hb1⟩
    go_wp2
    go_ret3
    rw [hb.out, hl.out]
    exact ⟨_, rfl, ⟨none, 0, rfl, by omega, fun i hi => by omega, fun h => by omega⟩, hb1⟩
end Go.Proofs.Ytioceechdombjaa

namespace Go.Proofs.Ytioceechdombjaa
open Go.RowKit

theorem sumTo_eq {f : Nat → Int} {M : Int} (n : Nat) : ∀ {s : Int}, sumTo f M n = some s → s = sumN (fun i => absI (f i) + 1) n := by
  induction n with
  | zero => intro s h; injection h with h; rw [← h]; rfl
  | succ n ih =>
    intro s h
    cases hs : sumTo f M n with
    | none => rw [sumTo_none hs (by omega)] at h; cases h
    | some t =>
      rw [sumTo_succ hs] at h
      by_cases hc : (f n ≤ 4611686018427387904 ∧ -4611686018427387904 ≤ f n) ∧ (f n < M - t ∧ - f n < M - t)
      · rw [if_pos hc] at h
        injection h with h
        show s = sumN (fun i => absI (f i) + 1) n + (absI (f n) + 1)
        rw [← ih hs, ← h]; unfold absI; omega
      · rw [if_neg hc] at h; cases h
theorem sumN_le {f g : Nat → Int} {m : Nat} (h : ∀ i, f i ≤ g i) : sumN f m ≤ sumN g m := by
  induction m with
  | zero => exact Int.le_refl _
  | succ m ih => have := h m; show sumN f m + f m ≤ sumN g m + g m; omega
theorem check_sumN {n : Int} {m : Nat} {E : Nat → Ed} (h : checkR n m E = 0) : sumN (fun i => absI (E i).wt) m ≤ 4611686018427387904 := by
  obtain ⟨_, _, _, hs⟩ := check_ok h
  cases hc : sumTo (fun i => (E i).wt) 4611686018427387904 m with
  | none => exact absurd hc hs
  | some s =>
    have h1 := sumTo_eq m hc
    have h2 := sumTo_bd (by omega) hc
    have h3 := sumN_le (f := fun i => absI (E i).wt) (g := fun i => absI (E i).wt + 1) (m := m) (fun i => by omega)
    omega
theorem sumTo_iff {f : Nat → Int} {M : Int} (hM : 0 ≤ M) (n : Nat) : sumTo f M n ≠ none ↔ (∀ i, i < n → -4611686018427387904 ≤ f i ∧ f i ≤ 4611686018427387904) ∧ sumN (fun i => absI (f i) + 1) n ≤ M := by
  constructor
  · intro h
    refine ⟨sumTo_some h, ?_⟩
    cases hs : sumTo f M n with
    | none => exact absurd hs h
    | some s => rw [← sumTo_eq n hs]; exact (sumTo_bd hM hs).2
  · induction n with
    | zero => intro _ h; cases h
    | succ n ih =>
      rintro ⟨h1, h2⟩
      have h2' : sumN (fun i => absI (f i) + 1) n + (absI (f n) + 1) ≤ M := h2
      have ha : 0 ≤ absI (f n) ∧ f n ≤ absI (f n) ∧ - f n ≤ absI (f n) := by unfold absI; split <;> omega
      have h3 := ih ⟨fun i hi => h1 i (by omega), by omega⟩
      cases hs : sumTo f M n with
      | none => exact absurd hs h3
      | some s =>
        have h4 := sumTo_eq n hs
        have h5 := h1 n (by omega)
        rw [sumTo_succ hs, if_pos (by omega)]
        simp
theorem check_mk {n : Int} {m : Nat} {E : Nat → Ed} (h0 : 0 ≤ n) (h1 : n ≤ 4096) (h2 : edsB n E m = true) (h3 : sumTo (fun i => (E i).wt) 4611686018427387904 m ≠ none) : checkR n m E = 0 := by
  unfold checkR
  rw [if_neg (by omega), if_neg (by simp [h2]), if_neg h3]
theorem check_un {n : Int} {m : Nat} {E : Nat → Ed} (h : checkR n m E = 0) : 0 ≤ n ∧ n ≤ 4096 ∧ edsB n E m = true ∧ sumTo (fun i => (E i).wt) 4611686018427387904 m ≠ none := by
  obtain ⟨h0, h1, _, h3⟩ := check_ok h
  refine ⟨h0, h1, ?_, h3⟩
  unfold checkR at h
  rw [if_neg (by omega)] at h
  cases he : edsB n E m with
  | true => rfl
  | false => rw [if_pos he] at h; omega
theorem bad_iff {n : Int} {m : Nat} {E : Nat → Ed} (h : checkR n m E = 0) : badR n m E = true ↔ ¬ ∃ x, Feas E m x := by
  obtain ⟨h0, h1, hE, _⟩ := check_ok h
  have hS := check_sumN h
  unfold badR
  rw [decide_eq_true_eq]
  constructor
  · rintro ⟨_, hf⟩ ⟨x, hx⟩
    have := relax_conv hE hS hx
    omega
  · intro hno
    refine ⟨h, ?_⟩
    by_cases hf : 0 ≤ (relaxR n.toNat E m).fell
    · exact hf
    · exact absurd ⟨_, relax_feas (n := n.toNat) (fun i hi => (hE i hi).2.2.1) (by omega)⟩ hno
theorem good_facts {n : Int} {m : Nat} {E : Nat → Ed} (h : checkR n m E = 0) (hb : badR n m E = false) : lenR n m E = n.toNat ∧ Feas E m (potR n m E) := by
  obtain ⟨h0, h1, hE, _⟩ := check_ok h
  have hf : (relaxR n.toNat E m).fell < 0 := by
    unfold badR at hb
    simp [h] at hb
    exact hb
  refine ⟨?_, relax_feas (fun i hi => (hE i hi).2.2.1) hf⟩
  unfold lenR; rw [if_pos ⟨h, hf⟩]
theorem bad_len {n : Int} {m : Nat} {E : Nat → Ed} (hb : badR n m E = true) : lenR n m E = 0 := by
  unfold badR at hb
  simp at hb
  unfold lenR
  rw [if_neg (by omega)]
theorem pot_le (n : Int) (m : Nat) (E : Nat → Ed) (i : Nat) : potR n m E i ≤ 0 := relax_le _ _ _ _
theorem pot_ge {n : Int} {m : Nat} {E : Nat → Ed} {x : Nat → Int} (hx : Feas E m x) (h0 : ∀ v, x v ≤ 0) (i : Nat) : x i ≤ potR n m E i := relax_ge hx h0 i
theorem scan_pin {E : Nat → Ed} {s : BS} (h : ∀ v, -4611686018427387904 ≤ s.p v) : ∀ k, (scanTo E s k).out = false → ∀ v, -4611686018427387904 ≤ (scanTo E s k).s.p v := by
  intro k
  induction k with
  | zero => intro _; exact h
  | succ k ih =>
    intro ho v
    by_cases ho2 : (scanTo E s k).out = true
    · rw [scanTo, if_pos ho2] at ho; rw [ho2] at ho; cases ho
    · have ho3 : (scanTo E s k).out = false := by simpa using ho2
      rw [scan_succ ho3] at ho ⊢
      have h1 := ih ho3
      by_cases hd : (scanTo E s k).s.p (E k).src.toNat + (E k).wt < (scanTo E s k).s.p (E k).dst.toNat
      · by_cases h2 : (scanTo E s k).s.p (E k).src.toNat + (E k).wt < -4611686018427387904
        · rw [edge_out hd h2] at ho; cases ho
        · rw [edge_in hd (by omega)]
          show _ ≤ upd _ _ _ v
          by_cases e : v = (E k).dst.toNat
          · rw [e, upd_same]; omega
          · rw [upd_other _ _ e]; exact h1 v
      · rw [edge_ge (by omega)]; exact h1 v
theorem rounds_pin (E : Nat → Ed) (m : Nat) : ∀ r, (roundsTo E m r).out = false → ∀ v, -4611686018427387904 ≤ (roundsTo E m r).s.p v := by
  intro r
  induction r with
  | zero => intro _ v; show -4611686018427387904 ≤ (0 : Int); omega
  | succ r ih =>
    intro ho v
    rw [roundsTo] at ho ⊢
    by_cases h1 : (roundsTo E m r).out = true
    · rw [if_pos h1, h1] at ho; cases ho
    · rw [if_neg h1] at ho ⊢
      have h1' : (roundsTo E m r).out = false := by simpa using h1
      by_cases h2 : (roundsTo E m r).fell < 0
      · rw [if_pos h2]; exact ih h1' v
      · rw [if_neg h2] at ho ⊢
        exact scan_pin (ih h1') m ho v
theorem pot_pin {n : Int} {m : Nat} {E : Nat → Ed} (h : checkR n m E = 0) (hb : badR n m E = false) (v : Nat) : -4611686018427387904 ≤ potR n m E v := by
  obtain ⟨_, _, hE, _⟩ := check_ok h
  have hf : (relaxR n.toNat E m).fell < 0 := by unfold badR at hb; simp [h] at hb; exact hb
  unfold potR relaxR at *
  rcases rounds_inv (fun i hi => (hE i hi).2.2.1) (n.toNat + 1) with ⟨_, h1, _⟩ | ⟨ho, _, _⟩ | ⟨_, h1, _⟩
  · omega
  · exact rounds_pin E m _ ho v
  · omega
end Go.Proofs.Ytioceechdombjaa
