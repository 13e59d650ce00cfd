/- gantryref24.Pots: the same. -/
import Derived.Test.YtoifcpdkophobaaGraphF
namespace Go.Proofs.Ytoifcpdkophobaa
open Go.RowKit

theorem below_drewN {B : Nat} {a w : World} (h : Below B a w) (n : Nat) : Below B a (w.drewN n) := ⟨h.os, h.tape, h.output, h.size, h.block⟩
theorem rowIs_drewN {w : World} {b : Nat} {t : TypeId} {n : Nat} {f : Nat → Value} (h : w.rowIs b t n f) (k : Nat) : (w.drewN k).rowIs b t n f := h
def RlxP (w0 wr : World) (g n : Nat) (r : SR) : Prop :=
  wr.rowIs g 3 n (fun j => .int .i64 (r.s.p j)) ∧ Below w0.heap.size w0 wr ∧ Pin r ∧ r.out = false

theorem relax_bad {n m : Nat} {E : Nat → Ed} {S : SR} (hck : checkR n m E = 0) (h1 : relaxR n E m = S) (h2 : 0 ≤ S.fell) : badR n m E = true ∧ lenR n m E = 0 := by
  constructor
  · unfold badR; simp [hck, h1, h2]
  · unfold lenR; simp [h1]; omega
theorem relax_good {n m : Nat} {E : Nat → Ed} {S : SR} (hck : checkR n m E = 0) (h1 : relaxR n E m = S) (h2 : S.fell < 0) : badR n m E = false ∧ lenR n m E = n := by
  constructor
  · unfold badR; simp [h1]; omega
  · unfold lenR; rw [if_pos ⟨hck, by simpa [h1] using h2⟩]; simp
theorem IntsAt.nil (w : World) (f : Nat → Int) : IntsAt w (.slice none 0 0) 0 f := ⟨none, 0, rfl, by omega, fun i hi => by omega, fun h => by omega⟩

set_option maxHeartbeats 800000 in
theorem RPots_ok (n : Nat) (v : Value) (m : Nat) (E : Nat → Ed) (w : World) (hv : EdsAt w v m E) (hm : m ≤ 1000000) (hn : n ≤ 4096) (hE : EdOk n E m) (hck : checkR n m E = 0) :
    Calls Try.prog 12 #[.int .i64 n, v] w fun e w' => ∃ u, e = .returned (.tuple #[u, .bool (badR n m E), .int .i64 0]) ∧ IntsAt w' u (lenR n m E) (potR n m E) ∧ Below w.heap.size w w' := by
  have hv' := Lib.hid hv
  obtain ⟨A, c, rfl, hn', hr, hc⟩ := hv
  have hc' := Lib.hid hc
  have hE' := Lib.hid hE
  have hck' := Lib.hid hck
  clear hc hr hE hck
  have hmk := run_make_row' (P := Try.prog) 25 3 (.int .i64 0) 8 Try.underlying25 info_int rfl .i64 .i64 n (by omega) (by omega)
  go_enter Try.func12, Try.ntmps12
  go_wp2_with fail
  refine (RCheck_any _ _ _ _ _ hv'.out hm (by omega) (by omega)).mono ?_
  rintro e w1 ⟨rfl, hb1⟩
  rw [hck'.out]
  go_wp2
  have hrow := World.rowIs_made w1 (.int .i64 0) n 3
  have hb2 := hb1.alloc hb1.size (.cells (madeCells #[.int .i64 0] n) 3)
  obtain ⟨W0, hW0⟩ : ∃ W0, W0 = w1.alloc (.cells (madeCells #[.int .i64 0] n) 3) := ⟨_, rfl⟩
  obtain ⟨g, hg⟩ : ∃ g, g = w1.heap.size := ⟨_, rfl⟩
  have hg1 : w.heap.size ≤ g := by have := hb1.size; omega
  rw [← hW0, ← hg] at hrow
  rw [← hW0] at hb2
  rw [← hW0, ← hg]
  clear hW0 hg hb1 hmk
  go_loopw [9] (fun i wr => ∃ r : Nat, r ≤ n + 1 ∧ i = .int .i64 r ∧ 0 ≤ (roundsTo E m r).fell ∧ RlxP w wr g n (roundsTo E m r)) (fun i _ => n + 1 - (intOf i).toNat)
  case atStart => exact ⟨0, Nat.zero_le _, rfl, Int.le_refl _, hrow, hb2, fun j => ⟨by show _ ≤ (0 : Int); omega, Int.le_refl _⟩, rfl⟩
  case round =>
    obtain ⟨r, hr1, rfl, hf0, hW⟩ := hrel
    by_cases hlt : r < n + 1
    · have hq := Lib.hid (rounds_next hW.2.2.2 hf0)
      generalize hQ : (roundsTo E m r).s = q at hq
      have hW0 : RlxP w wr g n (scanTo E q 0) := ⟨by have := hW.1; rw [hQ] at this; exact this, hW.2.1, by have h := hW.2.2.1; unfold Pin at h ⊢; rw [hQ] at h; exact h, rfl⟩
      clear hW hQ
      have hd : decide ((r : Int) ≤ (n : Int)) = true := by simp; omega
      go_wp2
      go_loopw [10, 11] (fun s i wr => ∃ k : Nat, k ≤ m ∧ i = .int .i64 k ∧ s = .bool (decide (0 ≤ (scanTo E q k).fell)) ∧ -1 ≤ (scanTo E q k).fell ∧ RlxP w wr g n (scanTo E q k)) (fun _ i _ => m - (intOf i).toNat)
      case atStart => exact ⟨0, Nat.zero_le _, rfl, rfl, Int.le_refl _, hW0⟩
      case round =>
        obtain ⟨k, hk, rfl, rfl, hf2, hW⟩ := hrel
        by_cases hlk : k < m
        · obtain ⟨b, o, rfl, hbl, hcs⟩ := hc'.out (by omega)
          obtain ⟨q0, q1, q2⟩ := hcs k hlk
          clear hcs
          obtain ⟨e0, e1, e2, e3, e4, e5⟩ := hE'.out k hlk
          obtain ⟨hp, hb, hpin, ho⟩ := hW
          have c0 := (hb.cell (p := ⟨b, o + k * 3, none⟩) hbl).trans q0
          have c1 := (hb.cell (p := ⟨b, o + k * 3 + 1, none⟩) hbl).trans q1
          have c2 := (hb.cell (p := ⟨b, o + k * 3 + 2, none⟩) hbl).trans q2
          clear q0 q1 q2
          have hstep := Lib.hid (scan_succ ho)
          generalize hR : scanTo E q k = R at *
          generalize hX : E k = X at *
          have hX' := Lib.hid hX
          have hR' := Lib.hid hR
          clear hR hX
          obtain ⟨x, y, z⟩ := X
          dsimp only at e0 e1 e2 e3 e4 e5 c0 c1 c2
          obtain ⟨x, rfl⟩ := Int.eq_ofNat_of_zero_le e0
          obtain ⟨y, rfl⟩ := Int.eq_ofNat_of_zero_le e2
          have d0 := hp.cell (show x < n by omega)
          have d1 := hp.cell (show y < n by omega)
          have f1 := hp.frozen y
          have g1l := hp.lt
          have px := hpin x
          have py := hpin y
          have hpin' := Lib.hid hpin
          have hp' := Lib.hid hp
          clear hpin hp
          have hwr : IntKind.i64.wrap (R.s.p x + z) = R.s.p x + z := IntWalk.i64_in _ (by omega)
          go_wp2
          go_quiet (fail)
          have hxy : b ≠ g := by omega
          have c1' : (wr.setCell ⟨g, y, none⟩ (.int .i64 (R.s.p x + z))).cell? ⟨b, o + k * 3 + 1, none⟩ = some (.int .i64 (y : Int)) := by
            rw [World.cell?_setCell_other _ _ _ _ (by intro h; injection h; omega)]; exact c1
          by_cases t1 : R.s.p x + z < -4611686018427387904
          · have hst : Hid (relaxR n E m = ⟨⟨upd R.s.p y (R.s.p x + z), upd R.s.b y k⟩, y, true⟩) :=
              final_out hq.out hlk (hstep.out.trans (edge_out (e := ⟨x, y, z⟩) (show R.s.p x + z < R.s.p y by omega) t1)) rfl hlt
            go_wp2
            go_ret3
            rw [(relax_bad hck'.out hst.out (by show (0 : Int) ≤ y; omega)).1, (relax_bad hck'.out hst.out (by show (0 : Int) ≤ y; omega)).2]
            exact ⟨_, rfl, IntsAt.nil _ _, below_drewN hb _⟩
          · by_cases t0 : R.s.p x + z < R.s.p y
            · have hst : Hid (scanTo E q (k + 1) = ⟨⟨upd R.s.p y (R.s.p x + z), upd R.s.b y k⟩, y, false⟩) :=
                hstep.out.trans (edge_in (e := ⟨x, y, z⟩) t0 (show -4611686018427387904 ≤ R.s.p x + z by omega))
              go_wp2
              go_roundw
              case rel =>
                refine ⟨k + 1, by omega, by go_num, ?_, by rw [hst.out]; show -1 ≤ (y : Int); omega, ?_⟩
                · rw [hst.out]
                  show _ = Value.bool (decide (0 ≤ (y : Int)))
                  simp
                · rw [hst.out]
                  refine ⟨?_, ?_, hpin'.out.upd (by omega) (by omega), rfl⟩
                  · exact ((rowIs_drewN hp'.out _).set y _).congr fun i _ => by unfold upd; split <;> simp [*]
                  · exact (below_drewN hb _).setCell (p := ⟨g, y, none⟩) hg1 _
              case measure => simp [intOf]; omega
            · have hst : Hid (scanTo E q (k + 1) = R) := hstep.out.trans (edge_ge (e := ⟨x, y, z⟩) (show R.s.p y ≤ R.s.p x + z by omega))
              go_wp2
              go_roundw
              case rel =>
                refine ⟨k + 1, by omega, by go_num, by rw [hst.out], by rw [hst.out]; exact hf2, ?_⟩
                rw [hst.out]
                exact ⟨rowIs_drewN hp'.out _, below_drewN hb _, hpin'.out, ho⟩
              case measure => simp [intOf]; omega
        · have hW' := Lib.hid hW
          clear hW
          have hkm : k = m := by omega
          have hkm' := Lib.hid hkm
          clear hkm
          by_cases hfl : (scanTo E q k).fell < 0
          · have hst := Lib.hid (final_fell (hkm'.out ▸ hq.out) hfl hlt)
            have hdb : decide (0 ≤ (scanTo E q k).fell) = false := by simp; omega
            go_wp2
            go_ret3
            rw [(relax_good hck'.out (hkm'.out ▸ hst.out) hfl).1, (relax_good hck'.out (hkm'.out ▸ hst.out) hfl).2]
            refine ⟨_, rfl, ?_, hW'.out.2.1⟩
            refine IntsAt.of_row hW'.out.1 (Nat.le_refl _) (by omega) (fun i _ => ?_) (fun i _ => ?_) _
            · show R64 ((relaxR n E m).s.p i)
              rw [show relaxR n E m = scanTo E q k from hkm'.out ▸ hst.out]
              have := hW'.out.2.2.1 i; unfold R64; omega
            · show _ = Value.int .i64 ((relaxR n E m).s.p i)
              rw [show relaxR n E m = scanTo E q k from hkm'.out ▸ hst.out]
          · have hdb : decide (0 ≤ (scanTo E q k).fell) = true := by simp; omega
            go_wp2
            go_roundw
            case rel =>
              refine ⟨r + 1, by omega, by go_num, ?_, ?_⟩
              · rw [hq.out, ← hkm'.out]; omega
              · rw [hq.out, ← hkm'.out]; exact hW'.out
            case measure => simp [intOf]; omega
    · have hrn : r = n + 1 := by omega
      subst hrn
      have hW' := Lib.hid hW
      clear hW
      go_wp2
      go_ret3
      rw [(relax_bad hck'.out rfl hf0).1, (relax_bad hck'.out rfl hf0).2]
      exact ⟨_, rfl, IntsAt.nil _ _, hW'.out.2.1⟩
end Go.Proofs.Ytoifcpdkophobaa
