/- term.Check. -/
import Derived.Test.YtecmoahadckomaaZTermBTermLTyW
import Derived.StillTailTactics
import Derived.Deep.RegionHeld3
namespace Go.Proofs.Ytecmoahadckomaa
open Go.RowKit Go.Maps

theorem NdsAt.pre {w : World} {A : Option Addr} {n c : Nat} {N : Nat → Nd} (h : NdsAt w (.slice A n c) n N) {k : Nat} (hk : k ≤ n) (c' : Nat) (hc' : k ≤ c' ∧ c' ≤ 9223372036854775807) : NdsAt w (.slice A k c') k N := by
  obtain ⟨A', c1, e, hn, hr, hc⟩ := h
  injection e with e1 _ _
  subst e1
  refine ⟨_, _, rfl, hc', fun i hi => hr i (by omega), fun h0 => ?_⟩
  obtain ⟨b, o, rfl, hb, hc⟩ := hc (by omega)
  exact ⟨b, o, rfl, hb, fun i hi => hc i (by omega)⟩

theorem tabs_step {w x y : World} {B : Nat} {v : Value} (h : x.cell? ⟨B, 0, none⟩ = some v ∧ B < x.heap.size ∧ Below B w x) (hb : Below x.heap.size x y) : y.cell? ⟨B, 0, none⟩ = some v ∧ B < y.heap.size ∧ Below B w y :=
  ⟨(hb.cell (p := ⟨B, 0, none⟩) h.2.1).trans h.1, by have := hb.size; omega, h.2.2.trans (hb.mono (Nat.le_of_lt h.2.1))⟩
theorem tabs_drewN {w x : World} {B : Nat} {v : Value} (h : x.cell? ⟨B, 0, none⟩ = some v ∧ B < x.heap.size ∧ Below B w x) (d : Nat) : (x.drewN d).cell? ⟨B, 0, none⟩ = some v ∧ B < (x.drewN d).heap.size ∧ Below B w (x.drewN d) :=
  ⟨h.1, h.2.1, below_drewN h.2.2 d⟩

set_option maxHeartbeats 1000000 in
set_option maxRecDepth 100000 in
theorem Check_any (v : Value) (n : Nat) (N : Nat → Nd) (w : World) (hv : NdsAt w v n N) (hn : n ≤ 1000000) :
    Calls Try.prog 18 #[.agg #[v]] w fun e w' => e = .returned (.int .i64 (checkT n N)) ∧ Below w.heap.size w w' := by
  have hv' := Lib.hid hv
  have hr := Lib.hid hv.ranges
  obtain ⟨A, c, rfl, hcap, _, hc⟩ := hv
  obtain ⟨hcap0, hcap1⟩ := hcap
  have hc' := Lib.hid hc
  clear hc
  by_cases h2 : n < 2
  · have hno := Lib.hid (check_not (n := n) (N := N) fun h => by have := h.two; omega)
    have d0 : decide ((n : Int) < 2) = true := by simp; omega
    clear h2
    go_enter Try.func18, Try.ntmps18
    go_wp2
    go_quiet (fail)
    go_wp2
    go_ret
    exact ⟨ret_int hno.out.symm, below_drewN ((Below.refl _ _).alloc (Nat.le_refl _) _) _⟩
  have d0 : decide ((n : Int) < 2) = false := by simp; omega
  obtain ⟨b, o, rfl, hbl, hcs⟩ := hc'.out (by omega)
  have hcs' := Lib.hid hcs
  clear hcs
  obtain ⟨W1, hW1⟩ : ∃ W1, W1 = w.alloc (.cells #[.slice (some ⟨b, o, none⟩) n c] 24) := ⟨_, rfl⟩
  have b0 : W1.cell? ⟨w.heap.size, 0, none⟩ = some (.slice (some ⟨b, o, none⟩) n c) := by rw [hW1]; simp
  have hz1 : w.heap.size < W1.heap.size := by rw [hW1]; simp
  have hb1 : Below w.heap.size w W1 := by rw [hW1]; exact (Below.refl _ _).alloc (Nat.le_refl _) _
  have hW1' := Lib.hid hW1
  clear hW1
  have h2c : (2 : Int) ≤ (c : Int) := by omega
  have hfl := run_tabField
  go_enter Try.func18, Try.ntmps18
  go_wp2
  rw [← hW1'.out]
  go_region_held3 (fun x => x.cell? ⟨w.heap.size, 0, none⟩ = some (.slice (some ⟨b, o, none⟩) n c) ∧ w.heap.size < x.heap.size ∧ Below w.heap.size w x) (first | exact hs2 | exact hs3 | exact ⟨b0, hz1, hb1.drew⟩)
    (first | (go_at_call 20; refine (New_any _).mono ?_; rintro e w2 ⟨v2, rfl, hv2, hb2⟩; have hs2 := tabs_step (by assumption) hb2; have hv2' := Lib.hid hv2; obtain ⟨A2, c2, rfl, _, _, _⟩ := hv2)
           | (go_at_call 31; refine (Equal_any _ _ 2 2 N newN _ ((hv'.out.pre (by omega) c (by omega)).below hs2.2.2) hv2'.out).mono ?_; rintro e w3 ⟨rfl, d3, rfl⟩; have hs3 := tabs_drewN hs2 d3))
  obtain ⟨w3, hw3⟩ : ∃ x, x = w2.drewN d3 := ⟨_, rfl⟩
  rw [← hw3] at hs3 ⊢
  clear hw3 hs2 hv2' hb2 b0 hz1 hb1 hfl hW1'
  obtain ⟨b0, hz3, hb3⟩ := hs3
  cases hsn : sameN 2 N 2 newN with
  | false =>
    have hno := Lib.hid (check_not (n := n) (N := N) fun h => by rw [same_new.2 ⟨h.tt, h.zz⟩] at hsn; cases hsn)
    go_wp2
    go_ret
    exact ⟨ret_int hno.out.symm, hb3⟩
  | true =>
    have htz := Lib.hid (same_new.1 hsn)
    clear hsn
    simp only [Bool.not_true]
    go_wp2
    go_loopw [22] (fun i wr => ∃ j : Nat, j ≤ n ∧ i = .int .i64 j ∧ Hid (∀ r, r < j → StandsP (N r) r) ∧ (wr.cell? ⟨w.heap.size, 0, none⟩ = some (.slice (some ⟨b, o, none⟩) n c) ∧ w.heap.size < wr.heap.size ∧ Below w.heap.size w wr)) (fun i _ => n - (intOf i).toNat)
    case atStart => exact ⟨0, Nat.zero_le _, rfl, fun r h => by omega, b0, hz3, hb3⟩
    case round =>
      clear b0 hz3 hb3
      obtain ⟨j, hj, rfl, hst, hs⟩ := hrel
      by_cases hlt : j < n
      · obtain ⟨b0, hz3, hb3⟩ := hs
        have hnd := (hcs'.out j hlt).below hb3 hbl
        go_wp2_with fail
        refine (Stands_any (N j) b (o + j * 8) j wr (hr.out j hlt) hnd (by omega) (by unfold R64; omega)).mono ?_
        rintro e w4 ⟨rfl, hb4⟩
        have hs4 := tabs_step ⟨b0, hz3, hb3⟩ hb4
        clear hnd b0 hz3 hb3 hb4
        cases hsj : standsB (N j) j with
        | false =>
          have hno := Lib.hid (check_not (n := n) (N := N) fun h => by rw [stands_yes (h.all j hlt)] at hsj; cases hsj)
          go_wp2
          go_ret
          exact ⟨ret_int hno.out.symm, hs4.2.2⟩
        | true =>
          have hsj' := Lib.hid (stands_iff.1 hsj)
          clear hsj
          go_wp2
          go_roundw
          case rel =>
            refine ⟨j + 1, by omega, by go_num, fun r h => ?_, hs4⟩
            by_cases er : r = j
            · subst er; exact hsj'.out
            · exact hst.out r (by omega)
          case measure => simp [intOf]; omega
      · have hjn : j = n := by omega
        subst hjn
        obtain ⟨b0, hz3, hb3⟩ := hs
        have hpl := hv'.out.below hb3
        go_wp2_with fail
        refine (places_any _ j N wr hpl hn).mono ?_
        rintro e w4 ⟨b4, rfl, _, _, hb4⟩
        have hs4 := tabs_step ⟨b0, hz3, hb3⟩ hb4
        clear hpl b0 hz3 hb3 hb4
        by_cases hcn : cntN N j = j
        · have hyes := Lib.hid (check_yes (n := j) (N := N) ⟨by omega, htz.out.1, htz.out.2, hst.out, (cntN_iff N j).1 hcn⟩)
          have d1 : decide (cntN N j = j) = true := by simpa using hcn
          clear hcn
          go_wp2
          go_ret
          exact ⟨ret_int hyes.out.symm, hs4.2.2⟩
        · have hno := Lib.hid (check_not (n := j) (N := N) fun h => hcn ((cntN_iff N j).2 h.once))
          have d1 : decide (cntN N j = j) = false := by simpa using hcn
          clear hcn
          go_wp2
          go_ret
          exact ⟨ret_int hno.out.symm, hs4.2.2⟩
end Go.Proofs.Ytecmoahadckomaa

namespace Go.Proofs.Ytecmoahadckomaa
open Go.RowKit

theorem NdsAt.alloc {w : World} {v : Value} {n : Nat} {N : Nat → Nd} (h : NdsAt w v n N) (o : Obj) : NdsAt (w.alloc o) v n N := h.below ((Below.refl _ _).alloc (Nat.le_refl _) _)
theorem NdsAt.drewN {w : World} {v : Value} {n : Nat} {N : Nat → Nd} (h : NdsAt w v n N) (d : Nat) : NdsAt (w.drewN d) v n N := h.keep (Nat.le_refl _) fun _ _ => rfl
theorem NdsAt.alloc2 {w : World} {v : Value} {n : Nat} {N : Nat → Nd} (h : NdsAt w v n N) (o o' : Obj) : NdsAt ((w.alloc o).alloc o') v n N := (h.alloc o).alloc o'
theorem below_two {w w2 : World} {o o' : Obj} (hb : Below ((w.alloc o).alloc o').heap.size ((w.alloc o).alloc o') w2) : Below w.heap.size w w2 :=
  (((Below.refl _ _).alloc (Nat.le_refl _) _).alloc (by simp) _).trans (hb.mono (by simp; omega))
end Go.Proofs.Ytecmoahadckomaa
