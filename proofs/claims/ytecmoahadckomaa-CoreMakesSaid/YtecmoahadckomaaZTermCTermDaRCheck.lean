/- term.Check. -/
import Derived.Test.YtecmoahadckomaaZTermBTermLGathL
import Derived.StillTailTactics
import Derived.Deep.RegionHeld3
import Derived.Test.YtecmoahadckomaaZRStands
namespace Go.Proofs.Ytecmoahadckomaa
open Go.RowKit Go.Maps

theorem NdsAt.pre {w : World} {A : Option Addr} {n c : Nat} {N : Nat → Nd} (h : NdsAt w (.slice A n c) n N) {k : Nat} (hk : k ≤ n) (c' : Nat) (hc' : k ≤ c' ∧ c' ≤ 9223372036854775807) : NdsAt w (.slice A k c') k N := by
  obtain ⟨A', c1, e, hn, hr, hc⟩ := h
  injection e with e1 _ _
  subst e1
  refine ⟨_, _, rfl, hc', fun i hi => hr i (by omega), fun h0 => ?_⟩
  obtain ⟨b, o, rfl, hb, hc⟩ := hc (by omega)
  exact ⟨b, o, rfl, hb, fun i hi => hc i (by omega)⟩

theorem tabs_step {w x y : World} {B : Nat} {v : Value} (h : x.cell? ⟨B, 0, none⟩ = some v ∧ B < x.heap.size ∧ Below B w x) (hb : Below x.heap.size x y) : y.cell? ⟨B, 0, none⟩ = some v ∧ B < y.heap.size ∧ Below B w y :=
  ⟨(hb.cell (p := ⟨B, 0, none⟩) h.2.1).trans h.1, by have := hb.size; omega, h.2.2.trans (hb.mono (Nat.le_of_lt h.2.1))⟩
theorem tabs_drewN {w x : World} {B : Nat} {v : Value} (h : x.cell? ⟨B, 0, none⟩ = some v ∧ B < x.heap.size ∧ Below B w x) (d : Nat) : (x.drewN d).cell? ⟨B, 0, none⟩ = some v ∧ B < (x.drewN d).heap.size ∧ Below B w (x.drewN d) :=
  ⟨h.1, h.2.1, below_drewN h.2.2 d⟩

set_option maxHeartbeats 1000000 in
set_option maxRecDepth 100000 in
theorem Check_any (v : Value) (n : Nat) (N : Nat → Nd) (w : World) (hv : NdsAt w v n N) (hn : n ≤ 1000000) :
    Calls Try.prog 18 #[.agg #[v]] w fun e w' => e = .returned (.int .i64 (checkT n N)) ∧ Below w.heap.size w w' := by
  have hv' := Lib.hid hv
  have hr := Lib.hid hv.ranges
  obtain ⟨A, c, rfl, hcap, _, hc⟩ := hv
  obtain ⟨hcap0, hcap1⟩ := hcap
  have hc' := Lib.hid hc
  clear hc
  by_cases h2 : n < 2
  · have hno := Lib.hid (check_not (n := n) (N := N) fun h => by have := h.two; omega)
    have d0 : decide ((n : Int) < 2) = true := by simp; omega
    clear h2
    go_enter Try.func18, Try.ntmps18
    go_wp2
    go_quiet (fail)
    go_wp2
    go_ret
    exact ⟨ret_int hno.out.symm, below_drewN ((Below.refl _ _).alloc (Nat.le_refl _) _) _⟩
  have d0 : decide ((n : Int) < 2) = false := by simp; omega
  obtain ⟨b, o, rfl, hbl, hcs⟩ := hc'.out (by omega)
  have hcs' := Lib.hid hcs
  clear hcs
  obtain ⟨W1, hW1⟩ : ∃ W1, W1 = w.alloc (.cells #[.slice (some ⟨b, o, none⟩) n c] 24) := ⟨_, rfl⟩
  have b0 : W1.cell? ⟨w.heap.size, 0, none⟩ = some (.slice (some ⟨b, o, none⟩) n c) := by rw [hW1]; simp
  have hz1 : w.heap.size < W1.heap.size := by rw [hW1]; simp
  have hb1 : Below w.heap.size w W1 := by rw [hW1]; exact (Below.refl _ _).alloc (Nat.le_refl _) _
  have hW1' := Lib.hid hW1
  clear hW1
  have h2c : (2 : Int) ≤ (c : Int) := by omega
  have hfl := run_tabField
  go_enter Try.func18, Try.ntmps18
  go_wp2
  rw [← hW1'.out]
  go_region_held3 (fun x => x.cell? ⟨w.heap.size, 0, none⟩ = some (.slice (some ⟨b, o, none⟩) n c) ∧ w.heap.size < x.heap.size ∧ Below w.heap.size w x) (first | exact hs2 | exact hs3 | exact ⟨b0, hz1, hb1.drew⟩)
    (first | (go_at_call 20; refine (New_any _).mono ?_; rintro e w2 ⟨v2, rfl, hv2, hb2⟩; have hs2 := tabs_step (by assumption) hb2; have hv2' := Lib.hid hv2; obtain ⟨A2, c2, rfl, _, _, _⟩ := hv2)
           | (go_at_call 31; refine (Equal_any _ _ 2 2 N newN _ ((hv'.out.pre (by omega) c (by omega)).below hs2.2.2) hv2'.out).mono ?_; rintro e w3 ⟨rfl, d3, rfl⟩; have hs3 := tabs_drewN hs2 d3))
  obtain ⟨w3, hw3⟩ : ∃ x, x = w2.drewN d3 := ⟨_, rfl⟩
  rw [← hw3] at hs3 ⊢
  clear hw3 hs2 hv2' hb2 b0 hz1 hb1 hfl hW1'
  obtain ⟨b0, hz3, hb3⟩ := hs3
  cases hsn : sameN 2 N 2 newN with
  | false =>
    have hno := Lib.hid (check_not (n := n) (N := N) fun h => by rw [same_new.2 ⟨h.tt, h.zz⟩] at hsn; cases hsn)
    go_wp2
    go_ret
    exact ⟨ret_int hno.out.symm, hb3⟩
  | true =>
    have htz := Lib.hid (same_new.1 hsn)
    clear hsn
    simp only [Bool.not_true]
    go_wp2
    go_loopw [22] (fun i wr => ∃ j : Nat, j ≤ n ∧ i = .int .i64 j ∧ Hid (∀ r, r < j → StandsP (N r) r) ∧ (wr.cell? ⟨w.heap.size, 0, none⟩ = some (.slice (some ⟨b, o, none⟩) n c) ∧ w.heap.size < wr.heap.size ∧ Below w.heap.size w wr)) (fun i _ => n - (intOf i).toNat)
    case atStart => exact ⟨0, Nat.zero_le _, rfl, fun r h => by omega, b0, hz3, hb3⟩
    case round =>
      clear b0 hz3 hb3
      obtain ⟨j, hj, rfl, hst, hs⟩ := hrel
      by_cases hlt : j < n
      · obtain ⟨b0, hz3, hb3⟩ := hs
        have hnd := (hcs'.out j hlt).below hb3 hbl
        go_wp2_with fail
        refine (Stands_any (N j) b (o + j * 8) j wr (hr.out j hlt) hnd (by omega) (by unfold R64; omega)).mono ?_
        rintro e w4 ⟨rfl, hb4⟩
        have hs4 := tabs_step ⟨b0, hz3, hb3⟩ hb4
        clear hnd b0 hz3 hb3 hb4
        cases hsj : standsB (N j) j with
        | false =>
          have hno := Lib.hid (check_not (n := n) (N := N) fun h => by rw [stands_yes (h.all j hlt)] at hsj; cases hsj)
          go_wp2
          go_ret
          exact ⟨ret_int hno.out.symm, hs4.2.2⟩
        | true =>
          have hsj' := Lib.hid (stands_iff.1 hsj)
          clear hsj
          go_wp2
          go_roundw
          case rel =>
            refine ⟨j + 1, by omega, by go_num, fun r h => ?_, hs4⟩
            by_cases er : r = j
            · subst er; exact hsj'.out
            · exact hst.out r (by omega)
          case measure => simp [intOf]; omega
      · have hjn : j = n := by omega
        subst hjn
        obtain ⟨b0, hz3, hb3⟩ := hs
        have hpl := hv'.out.below hb3
        go_wp2_with fail
        refine (places_any _ j N wr hpl hn).mono ?_
        rintro e w4 ⟨b4, rfl, _, _, hb4⟩
        have hs4 := tabs_step ⟨b0, hz3, hb3⟩ hb4
        clear hpl b0 hz3 hb3 hb4
        by_cases hcn : cntN N j = j
        · have hyes := Lib.hid (check_yes (n := j) (N := N) ⟨by omega, htz.out.1, htz.out.2, hst.out, (cntN_iff N j).1 hcn⟩)
          have d1 : decide (cntN N j = j) = true := by simpa using hcn
          clear hcn
          go_wp2
          go_ret
          exact ⟨ret_int hyes.out.symm, hs4.2.2⟩
        · have hno := Lib.hid (check_not (n := j) (N := N) fun h => hcn ((cntN_iff N j).2 h.once))
          have d1 : decide (cntN N j = j) = false := by simpa using hcn
          clear hcn
          go_wp2
          go_ret
          exact ⟨ret_int hno.out.symm, hs4.2.2⟩
end Go.Proofs.Ytecmoahadckomaa

namespace Go.Proofs.Ytecmoahadckomaa
open Go.RowKit

theorem NdsAt.alloc {w : World} {v : Value} {n : Nat} {N : Nat → Nd} (h : NdsAt w v n N) (o : Obj) : NdsAt (w.alloc o) v n N := h.below ((Below.refl _ _).alloc (Nat.le_refl _) _)
theorem NdsAt.drewN {w : World} {v : Value} {n : Nat} {N : Nat → Nd} (h : NdsAt w v n N) (d : Nat) : NdsAt (w.drewN d) v n N := h.keep (Nat.le_refl _) fun _ _ => rfl
theorem NdsAt.alloc2 {w : World} {v : Value} {n : Nat} {N : Nat → Nd} (h : NdsAt w v n N) (o o' : Obj) : NdsAt ((w.alloc o).alloc o') v n N := (h.alloc o).alloc o'
theorem below_two {w w2 : World} {o o' : Obj} (hb : Below ((w.alloc o).alloc o').heap.size ((w.alloc o).alloc o') w2) : Below w.heap.size w w2 :=
  (((Below.refl _ _).alloc (Nat.le_refl _) _).alloc (by simp) _).trans (hb.mono (by simp; omega))
end Go.Proofs.Ytecmoahadckomaa

namespace Go.Proofs.Ytecmoahadckomaa
open Go.RowKit Go.Maps

theorem RNew_any (w : World) : Calls Try.prog 17 #[] w fun e w' => ∃ v, e = .returned (.agg #[v]) ∧ NdsAt w' v 2 newN ∧ Below w.heap.size w w' := by
  go_enter Try.func17, Try.ntmps17
  go_wp2
  refine bodyPost_ret (results_tab rfl _ _ w.heap.size (.slice (some ⟨w.heap.size + 1, 0, none⟩) 2 2) rfl (by simp)) rfl ⟨_, rfl, ?_, ((Below.refl _ _).alloc (Nat.le_refl _) _).alloc (by simp) _⟩
  have := new_cells (w.alloc (.cells #[.slice (some ⟨w.heap.size + 1, 0, none⟩) 2 2] 24)) 39
  simpa using this

/-- The two boxes of Check: the table's, New's. -/
def ChkBox (B G : Nat) (b o n c : Nat) (b2 o2 c2 : Nat) (w x : World) : Prop :=
  x.cell? ⟨B, 0, none⟩ = some (.slice (some ⟨b, o, none⟩) n c) ∧ x.cell? ⟨G, 0, none⟩ = some (.slice (some ⟨b2, o2, none⟩) 2 c2) ∧ (B < x.heap.size ∧ G < x.heap.size) ∧ Below B w x
theorem ChkBox.step {B G b o n c b2 o2 c2 : Nat} {w x y : World} (h : ChkBox B G b o n c b2 o2 c2 w x) (hb : Below x.heap.size x y) : ChkBox B G b o n c b2 o2 c2 w y := by
  obtain ⟨h0, h1, h2, h3⟩ := h
  exact ⟨(hb.cell (p := ⟨B, 0, none⟩) h2.1).trans h0, (hb.cell (p := ⟨G, 0, none⟩) h2.2).trans h1, by have := hb.size; omega, h3.trans (hb.mono (by omega))⟩
theorem ChkBox.drewN {B G b o n c b2 o2 c2 : Nat} {w x : World} (h : ChkBox B G b o n c b2 o2 c2 w x) (d : Nat) : ChkBox B G b o n c b2 o2 c2 w (x.drewN d) := by
  obtain ⟨h0, h1, h2, h3⟩ := h
  exact ⟨h0, h1, h2, below_drewN h3 d⟩

set_option maxHeartbeats 2000000 in
set_option maxRecDepth 100000 in
theorem RCheck_any (v : Value) (n : Nat) (N : Nat → Nd) (w : World) (hv : NdsAt w v n N) (hn : n ≤ 1000000) :
    Calls Try.prog 15 #[.agg #[v]] w fun e w' => e = .returned (.int .i64 (checkT n N)) ∧ Below w.heap.size w w' := by
  have hr := Lib.hid hv.ranges
  obtain ⟨A, c, rfl, hcap, _, hc⟩ := hv
  obtain ⟨hcap0, hcap1⟩ := hcap
  have hc' := Lib.hid hc
  clear hc
  by_cases h2 : n < 2
  · have hno := Lib.hid (check_not (n := n) (N := N) fun h => by have := h.two; omega)
    have d0 : decide ((n : Int) < 2) = true := by simp; omega
    clear h2
    go_enter Try.func15, Try.ntmps15
    go_wp2_with fail
    refine (RNew_any _).mono ?_
    rintro e w2 ⟨v2, rfl, hv2, hb2⟩
    obtain ⟨A2, c2, rfl, _, _, _⟩ := hv2
    have hs2 := tabs_step (w := w) (v := .slice A n c) ⟨by simp, by simp, (Below.refl _ _).alloc (Nat.le_refl _) _⟩ hb2
    obtain ⟨b0, hz, hb3⟩ := hs2
    clear hb2
    go_wp2
    go_quiet (fail)
    go_wp2
    go_ret
    exact ⟨ret_int hno.out.symm, below_drewN (hb3.alloc (by omega) _) _⟩
  have d0 : decide ((n : Int) < 2) = false := by simp; omega
  obtain ⟨b, o, rfl, hbl, hcs⟩ := hc'.out (by omega)
  have hcs' := Lib.hid hcs
  clear hcs
  have i0 : 0 < n := by omega
  have i1 : 1 < n := by omega
  go_enter Try.func15, Try.ntmps15
  go_wp2_with fail
  refine (RNew_any _).mono ?_
  rintro e w2 ⟨v2, rfl, hv2, hb2⟩
  obtain ⟨A2, c2, rfl, _, _, hn2⟩ := hv2
  obtain ⟨b2, o2, rfl, hbl2, hcs2⟩ := hn2 (by omega)
  have hT := hcs2 0 (by omega)
  have hZ := hcs2 1 (by omega)
  clear hcs2
  have hs2 := tabs_step (w := w) (v := .slice (some ⟨b, o, none⟩) n c) ⟨by simp, by simp, (Below.refl _ _).alloc (Nat.le_refl _) _⟩ hb2
  obtain ⟨b0, hz, hb3⟩ := hs2
  clear hb2
  obtain ⟨t0, t1, t2, t3, t4, t5, t6, t7⟩ := hT
  obtain ⟨z0, z1, z2, z3, z4, z5, z6, z7⟩ := hZ
  obtain ⟨c0, c1, c3, c4, c5, c6, c7, c8⟩ := (hcs'.out 0 (by omega)).below hb3 hbl
  obtain ⟨x0, x1, x2, x3, x4, x5, x6, x7⟩ := (hcs'.out 1 (by omega)).below hb3 hbl
  simp only [Nat.zero_mul, Nat.one_mul, Nat.add_zero] at t0 t1 t2 t3 t4 t5 t6 t7 z0 z1 z2 z3 z4 z5 z6 z7 c0 c1 c3 c4 c5 c6 c7 c8 x0 x1 x2 x3 x4 x5 x6 x7
  have hbw : b < w2.heap.size := by omega
  have hen := run_eqNd
  have hbg : ChkBox w.heap.size w2.heap.size b o n c b2 o2 c2 w (w2.alloc (.cells #[.slice (some ⟨b2, o2, none⟩) 2 c2] 24)) :=
    ⟨(((Below.refl w2.heap.size w2).alloc (Nat.le_refl _) (.cells #[.slice (some ⟨b2, o2, none⟩) 2 c2] 24)).cell (p := ⟨w.heap.size, 0, none⟩) hz).trans b0, by simp, by simp; omega, hb3.alloc (by omega) _⟩
  by_cases hN0 : N 0 = newN 0
  · have e1 := (ndEq_eq (N 0) (newN 0)).trans (decide_eq_true hN0)
    by_cases hN1 : N 1 = newN 1
    · have e2 := (ndEq_eq (N 1) (newN 1)).trans (decide_eq_true hN1)
      have htz := Lib.hid (And.intro hN0 hN1)
      clear hN0 hN1
      go_wp2
      go_quiet (fail)
      clear e1 e2 t0 t1 t2 t3 t4 t5 t6 t7 z0 z1 z2 z3 z4 z5 z6 z7 c0 c1 c3 c4 c5 c6 c7 c8 x0 x1 x2 x3 x4 x5 x6 x7 b0 hz hb3
      go_wp2
      have hbg' := hbg.drewN nq
      generalize (w2.alloc (.cells #[.slice (some ⟨b2, o2, none⟩) 2 c2] 24)).drewN nq = w3 at hbg' ⊢
      clear hbg hc' hn2
      go_loopw [4] (fun i wr => ∃ j : Nat, j ≤ n ∧ i = .int .i64 j ∧ Hid (∀ r, r < j → StandsP (N r) r) ∧ Hid (OnceN N j) ∧ ChkBox w.heap.size w2.heap.size b o n c b2 o2 c2 w wr) (fun i _ => n - (intOf i).toNat)
      case atStart => exact ⟨0, Nat.zero_le _, rfl, fun r h => by omega, fun i j h1 h2 => by omega, hbg'⟩
      case round =>
        clear hbg'
        obtain ⟨j, hj, rfl, hst, hon, hs⟩ := hrel
        have hs' := hs
        obtain ⟨q0, q1, q2, q3⟩ := hs
        by_cases hlt : j < n
        · obtain ⟨e0, e1, e2, e3, e4, e5, e6, e7⟩ := (hcs'.out j hlt).below q3 hbl
          go_wp2_with fail
          refine (RStands_any (N j) j wr (hr.out j hlt) (by unfold R64; omega)).mono ?_
          rintro x w4 ⟨rfl, hb4⟩
          have hs4 := hs'.step hb4
          clear q0 q1 q2 q3 e0 e1 e2 e3 e4 e5 e6 e7 hb4 hs'
          cases hsj : standsB (N j) j with
          | false =>
            have hno := Lib.hid (check_not (n := n) (N := N) fun h => by rw [stands_yes (h.all j hlt)] at hsj; cases hsj)
            go_wp2
            go_ret
            exact ⟨ret_int hno.out.symm, hs4.2.2.2⟩
          | true =>
            have hsj' := Lib.hid (stands_iff.1 hsj)
            clear hsj
            go_wp2
            go_loopw [5] (fun k wr => ∃ r : Nat, r ≤ j ∧ k = .int .i64 r ∧ Hid (∀ s, s < r → N s ≠ N j) ∧ ChkBox w.heap.size w2.heap.size b o n c b2 o2 c2 w wr) (fun k _ => j - (intOf k).toNat)
            case atStart => exact ⟨0, Nat.zero_le _, rfl, fun r h => by omega, hs4⟩
            case round =>
              clear hs4
              obtain ⟨r, hrj, rfl, hne, hs5⟩ := hrel
              have hs5' := hs5
              obtain ⟨q0, q1, q2, q3⟩ := hs5
              by_cases hlr : r < j
              · obtain ⟨e0, e1, e2, e3, e4, e5, e6, e7⟩ := (hcs'.out r (by omega)).below q3 hbl
                obtain ⟨f0, f1, f2, f3, f4, f5, f6, f7⟩ := (hcs'.out j (by omega)).below q3 hbl
                have hrn : r < n := by omega
                by_cases hrj : N r = N j
                · have hno := Lib.hid (check_not (n := n) (N := N) fun h => h.once r j hlr hlt hrj)
                  have hd := (ndEq_eq (N r) (N j)).trans (decide_eq_true hrj)
                  clear hrj
                  go_wp2
                  go_quiet (fail)
                  go_wp2
                  go_ret
                  exact ⟨ret_int hno.out.symm, (hs5'.drewN _).2.2.2⟩
                · have hd := (ndEq_eq (N r) (N j)).trans (decide_eq_false hrj)
                  have hrj' := Lib.hid hrj
                  clear hrj
                  go_wp2
                  go_quiet (fail)
                  clear hd e0 e1 e2 e3 e4 e5 e6 e7 f0 f1 f2 f3 f4 f5 f6 f7
                  go_wp2
                  go_roundw
                  case rel =>
                    refine ⟨r + 1, by omega, by go_num, fun s h => ?_, hs5'.drewN _⟩
                    by_cases es : s = r
                    · subst es; exact hrj'.out
                    · exact hne.out s (by omega)
                  case measure => simp [intOf]; omega
              · go_wp2
                go_roundw
                case rel =>
                  refine ⟨j + 1, by omega, by go_num, fun s h => ?_, fun i k h1 h2 => ?_, hs5'⟩
                  · by_cases es : s = j
                    · subst es; exact hsj'.out
                    · exact hst.out s (by omega)
                  · by_cases es : k = j
                    · subst es; exact hne.out i (by omega)
                    · exact hon.out i k h1 (by omega)
                case measure => simp [intOf]; omega
        · have hjn : j = n := by omega
          subst hjn
          have hyes := Lib.hid (check_yes (n := j) (N := N) ⟨by omega, htz.out.1, htz.out.2, hst.out, hon.out⟩)
          go_wp2
          go_ret
          exact ⟨ret_int hyes.out.symm, q3⟩
    · have hno := Lib.hid (check_not (n := n) (N := N) fun h => hN1 h.zz)
      have e2 := (ndEq_eq (N 1) (newN 1)).trans (decide_eq_false hN1)
      clear hN0 hN1
      go_wp2
      go_quiet (fail)
      go_wp2
      go_ret
      exact ⟨ret_int hno.out.symm, (hbg.drewN _).2.2.2⟩
  · have hno := Lib.hid (check_not (n := n) (N := N) fun h => hN0 h.tt)
    have e1 := (ndEq_eq (N 0) (newN 0)).trans (decide_eq_false hN0)
    clear hN0
    go_wp2
    go_quiet (fail)
    go_wp2
    go_ret
    exact ⟨ret_int hno.out.symm, (hbg.drewN _).2.2.2⟩
end Go.Proofs.Ytecmoahadckomaa
