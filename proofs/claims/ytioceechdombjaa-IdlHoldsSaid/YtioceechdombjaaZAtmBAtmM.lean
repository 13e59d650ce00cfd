/- atoms.May, gantryref13.May. -/
import Derived.Test.YtioceechdombjaaZRCheckAtmA
import Derived.Test.YtioceechdombjaaZCheckB
import Derived.Deep.RegionHeld3
import Derived.Test.YtioceechdombjaaZClsW
namespace Go.Proofs.Ytioceechdombjaa
open Go.RowKit Go.Maps
set_option maxRecDepth 100000

def badLit (n : Nat) (N : Nat → Nd) (x : Int) : Bool := decide (x < 0) || (sortN n N (x / 2) != 0) || ((N (x / 2).toNat).op == 1)
def anyBadL (n : Nat) (N : Nat → Nd) (f : Nat → Int) : Nat → Bool
  | 0 => false
  | k + 1 => anyBadL n N f k || badLit n N (f k)
theorem anyBadL_iff (n : Nat) (N : Nat → Nd) (f : Nat → Int) (k : Nat) : anyBadL n N f k = false ↔ ∀ i, i < k → badLit n N (f i) = false := by
  induction k with
  | zero => simp [anyBadL]
  | succ k ih =>
    rw [anyBadL, Bool.or_eq_false_iff, ih]
    constructor
    · rintro ⟨h1, h2⟩ i hi
      by_cases e : i = k
      · subst e; exact h2
      · exact h1 i (by omega)
    · exact fun h => ⟨fun i hi => h i (by omega), h k (by omega)⟩
theorem anyBadL_at {n : Nat} {N : Nat → Nd} {f : Nat → Int} {k i : Nat} (hi : i < k) (h : badLit n N (f i) = true) : anyBadL n N f k = true := by
  cases hk : anyBadL n N f k with
  | true => rfl
  | false => rw [(anyBadL_iff n N f k).1 hk i hi] at h; cases h
/-- May literals stand? -/
noncomputable def mayT (n : Nat) (N : Nat → Nd) (m : Nat) (f : Nat → Int) : Bool := checkB n N && !anyBadL n N f m
theorem mayT_chk {n : Nat} {N : Nat → Nd} (h : CheckP n N) (m : Nat) (f : Nat → Int) : mayT n N m f = !anyBadL n N f m := by unfold mayT; rw [checkB_yes h]; rfl
theorem mayT_no {n : Nat} {N : Nat → Nd} (h : ¬ CheckP n N) (m : Nat) (f : Nat → Int) : mayT n N m f = false := by unfold mayT; rw [checkB_no h]; rfl
theorem badLit_lt {n : Nat} {N : Nat → Nd} {x : Int} (h : badLit n N x = false) : 0 ≤ x ∧ (x / 2).toNat < n ∧ (N (x / 2).toNat).sort = 0 ∧ (N (x / 2).toNat).op ≠ 1 := by
  unfold badLit at h
  simp only [Bool.or_eq_false_iff, decide_eq_false_iff_not, bne_eq_false_iff_eq, beq_eq_false_iff_ne, ne_eq] at h
  obtain ⟨⟨h0, h1⟩, h2⟩ := h
  unfold sortN at h1
  split at h1
  · exact ⟨by omega, by omega, h1, h2⟩
  · omega

set_option maxHeartbeats 1000000 in
theorem May1_any (x : Int) (B : Nat) (A : Option Addr) (n c : Nat) (N : Nat → Nd) (w : World) (hB : w.cell? ⟨B, 0, none⟩ = some (.slice A n c)) (hv : NdsAt w (.slice A n c) n N) (hn : n ≤ 1000000) (hx : R64 x) :
    Calls Try.prog 51 #[.int .i64 x, .pointer (some ⟨B, 0, none⟩)] w fun e w' => e = .returned (.bool (badLit n N x)) ∧ w = w' := by
  have hv' := Lib.hid hv
  obtain ⟨hx0, hx1⟩ := hx
  by_cases h0 : x < 0
  · have hR : Hid (badLit n N x = true) := by unfold Hid badLit; simp [h0]
    have d0 : decide (x < 0) = true := by simpa using h0
    clear h0 hv
    go_enter Try.func51, Try.ntmps51
    go_wp2
    go_ret
    exact ⟨ret_bool hR.out.symm, rfl⟩
  · have d0 : decide (x < 0) = false := by simpa using h0
    have hx2 : 0 ≤ x := by omega
    by_cases h1 : sortN n N (x / 2) = 0
    · have hin : 0 ≤ x / 2 ∧ x / 2 < n := by
        unfold sortN at h1
        split at h1
        · assumption
        · omega
      have hjn : (x / 2).toNat < n := by omega
      have hR : Hid (badLit n N x = ((N (x / 2).toNat).op == 1)) := by unfold Hid badLit; rw [h1]; simp [h0]
      have h1' := Lib.hid h1
      obtain ⟨i0, i1⟩ := hin
      obtain ⟨A', c', eA, hc, _, hcs⟩ := hv
      injection eA with eA1 _ eA3
      subst eA1
      have eA3' := Lib.hid eA3
      clear eA3
      obtain ⟨b, o, rfl, hbl, hcs⟩ := hcs (by omega)
      obtain ⟨e0, e1, e2, e3, e4, e5, e6, e7⟩ := hcs _ hjn
      clear hcs h1 h0
      go_enter Try.func51, Try.ntmps51
      go_wp2_with fail
      refine (Asort_any B _ n c N (x / 2) w hB hv'.out hn (by unfold R64; omega)).mono ?_
      rintro e w2 ⟨rfl, rfl⟩
      rw [h1'.out]
      go_wp2
      go_ret
      exact ⟨ret_bool hR.out.symm, rfl⟩
    · have hR : Hid (badLit n N x = true) := by unfold Hid badLit; simp [h1]
      have d1 : (sortN n N (x / 2) != 0) = true := by simpa using h1
      have hRs := sortN_R hv (x / 2)
      clear h0 h1 hv
      go_enter Try.func51, Try.ntmps51
      go_wp2_with fail
      refine (Asort_any B _ n c N (x / 2) w hB hv'.out hn (by unfold R64; omega)).mono ?_
      rintro e w2 ⟨rfl, rfl⟩
      generalize sortN n N (x / 2) = s at *
      go_wp2
      go_ret
      exact ⟨ret_bool hR.out.symm, rfl⟩

def MIdxPost (n : Nat) (N : Nat → Nd) (m : Nat) (f : Nat → Int) (w : World) (x : Ending) (w' : World) : Prop :=
  ∃ r : Int, x = .returned (.int .i64 r) ∧ ((0 ≤ r ∧ anyBadL n N f m = true) ∨ (r = -1 ∧ anyBadL n N f m = false)) ∧ w = w'
set_option maxHeartbeats 1000000 in
theorem MayIdx_any (B : Nat) (A : Option Addr) (n c : Nat) (N : Nat → Nd) (u : Value) (m : Nat) (f : Nat → Int) (w : World) (hB : w.cell? ⟨B, 0, none⟩ = some (.slice A n c)) (hv : NdsAt w (.slice A n c) n N) (hn : n ≤ 1000000) (hu : IntsAt w u m f) :
    Calls Try.prog 69 #[u, .func (.func 51) #[] #[.pointer (some ⟨B, 0, none⟩)]] w (MIdxPost n N m f w) := by
  have hv' := Lib.hid hv
  clear hv
  obtain ⟨U, cu, rfl, hm, hR, hcu⟩ := hu
  have hcu' := Lib.hid hcu
  have hR' := Lib.hid hR
  clear hcu hR
  go_enter Try.func69, Try.ntmps69
  go_wp2
  go_loop [8] (fun i => ∃ j : Nat, j ≤ m ∧ i = .int .i64 j ∧ Hid (anyBadL n N f j = false)) (fun i => m - (intOf i).toNat)
  case atStart => exact ⟨0, Nat.zero_le _, rfl, rfl⟩
  case round =>
    obtain ⟨j, hj, rfl, hs⟩ := hrel
    by_cases hlt : j < m
    · obtain ⟨lb, lo, rfl, hlb, hcs⟩ := hcu'.out (by omega)
      have hc := hcs j hlt
      clear hcs
      go_wp2_with fail
      refine (May1_any (f j) B A n c N w hB hv'.out hn (hR'.out j hlt)).mono ?_
      rintro x w2 ⟨rfl, rfl⟩
      cases hbad : badLit n N (f j) with
      | true =>
        have hy := Lib.hid (anyBadL_at (n := n) (N := N) (f := f) hlt hbad)
        clear hbad
        go_wp2
        go_ret
        exact ⟨j, rfl, .inl ⟨by omega, hy.out⟩, rfl⟩
      | false =>
        have hno : Hid (anyBadL n N f (j + 1) = false) := by unfold Hid; rw [anyBadL, hs.out]; exact hbad
        clear hbad
        go_wp2
        go_round
        case rel => exact ⟨j + 1, by omega, by go_num, hno⟩
        case measure => simp [intOf]; omega
    · obtain rfl : j = m := by omega
      go_wp2
      go_ret
      exact ⟨-1, rfl, .inr ⟨rfl, hs.out⟩, rfl⟩
theorem MayCon_any (B : Nat) (A : Option Addr) (n c : Nat) (N : Nat → Nd) (u : Value) (m : Nat) (f : Nat → Int) (w : World) (hB : w.cell? ⟨B, 0, none⟩ = some (.slice A n c)) (hv : NdsAt w (.slice A n c) n N) (hn : n ≤ 1000000) (hu : IntsAt w u m f) :
    Calls Try.prog 50 #[u, .func (.func 51) #[] #[.pointer (some ⟨B, 0, none⟩)]] w fun x w' => x = .returned (.bool (anyBadL n N f m)) ∧ w = w' := by
  have hI := Lib.hid (MayIdx_any B A n c N u m f w hB hv hn hu)
  obtain ⟨U, cu, rfl, _, _, _⟩ := hu
  clear hv
  go_enter Try.func50, Try.ntmps50
  go_wp2_with fail
  refine hI.out.mono ?_
  rintro x w2 ⟨r, rfl, hr, rfl⟩
  rcases hr with ⟨h0, hy⟩ | ⟨h0, hy⟩
  · have d0 : decide (0 ≤ r) = true := by simpa using h0
    have hy' := Lib.hid hy
    clear hy h0 hI
    go_wp2
    go_ret
    exact ⟨ret_bool hy'.out.symm, rfl⟩
  · subst h0
    have hy' := Lib.hid hy
    clear hy hI
    go_wp2
    go_ret
    exact ⟨ret_bool hy'.out.symm, rfl⟩

set_option maxHeartbeats 1000000 in
theorem AMay_any (v u : Value) (n m : Nat) (N : Nat → Nd) (f : Nat → Int) (w : World) (hv : NdsAt w v n N) (hn : n ≤ 1000000) (hu : IntsAt w u m f) :
    Calls Try.prog 30 #[.agg #[v], u] w fun x w' => x = .returned (.bool (mayT n N m f)) ∧ Below w.heap.size w w' := by
  have hv' := Lib.hid hv
  have hu' := Lib.hid hu
  obtain ⟨A, c, rfl, _, _, _⟩ := hv
  obtain ⟨U, cu, rfl, _, _, _⟩ := hu
  have hx0 := (Bx.nil w).one (.slice A n c) 33
  by_cases hch : CheckP n N
  · have hy := Lib.hid (check_yes hch)
    have hR := Lib.hid (mayT_chk hch m f)
    clear hch
    go_enter Try.func30, Try.ntmps30
    go_wp2_with fail
    refine (Check_any _ n N _ (hv'.out.below hx0.bel) hn).mono ?_
    rintro x w2 ⟨rfl, hb2⟩
    rw [hy.out]
    have hx2 := hx0.step hb2
    obtain ⟨⟨q0, z0⟩, -⟩ := hx2.cells
    go_wp2_with fail
    refine (MayCon_any w.heap.size A n c N _ m f w2 q0 (hv'.out.below hx2.bel) hn (hu'.out.below hx2.bel)).mono ?_
    rintro x w3 ⟨rfl, rfl⟩
    go_wp2
    go_ret
    exact ⟨ret_bool hR.out.symm, hx2.bel⟩
  · have hy := Lib.hid (check_not hch)
    have hR := Lib.hid (mayT_no hch m f)
    clear hch
    go_enter Try.func30, Try.ntmps30
    go_wp2_with fail
    refine (Check_any _ n N _ (hv'.out.below hx0.bel) hn).mono ?_
    rintro x w2 ⟨rfl, hb2⟩
    rw [hy.out]
    have hx2 := hx0.step hb2
    go_wp2
    go_ret
    exact ⟨ret_bool hR.out.symm, hx2.bel⟩
end Go.Proofs.Ytioceechdombjaa

namespace Go.Proofs.Ytioceechdombjaa
open Go.RowKit Go.Maps
set_option maxRecDepth 100000

theorem IntsAt.drewN {w : World} {v : Value} {n : Nat} {f : Nat → Int} (h : IntsAt w v n f) (d : Nat) : IntsAt (w.drewN d) v n f := h.keep (Nat.le_refl _) fun _ _ => rfl
theorem NdsAt.drew' {w : World} {v : Value} {n : Nat} {N : Nat → Nd} (h : NdsAt w v n N) : NdsAt w.drew v n N := h.keep (Nat.le_refl _) fun _ _ => rfl

theorem mhold {x y : World} {g1 g2 g3 o1 o2 o3 : Nat} {v1 v2 v3 : Value} (hb : Below x.heap.size x y) (h : x.cell? ⟨g1, o1, none⟩ = some v1 ∧ x.cell? ⟨g2, o2, none⟩ = some v2 ∧ x.cell? ⟨g3, o3, none⟩ = some v3) (h1 : g1 < x.heap.size) (h2 : g2 < x.heap.size) (h3 : g3 < x.heap.size) :
    y.cell? ⟨g1, o1, none⟩ = some v1 ∧ y.cell? ⟨g2, o2, none⟩ = some v2 ∧ y.cell? ⟨g3, o3, none⟩ = some v3 :=
  ⟨(hb.cell (p := ⟨g1, o1, none⟩) h1).trans h.1, (hb.cell (p := ⟨g2, o2, none⟩) h2).trans h.2.1, (hb.cell (p := ⟨g3, o3, none⟩) h3).trans h.2.2⟩

theorem mhold2 {x y : World} {g1 g2 o1 o2 : Nat} {v1 v2 : Value} (hb : Below x.heap.size x y) (h : x.cell? ⟨g1, o1, none⟩ = some v1 ∧ x.cell? ⟨g2, o2, none⟩ = some v2) (h1 : g1 < x.heap.size) (h2 : g2 < x.heap.size) :
    y.cell? ⟨g1, o1, none⟩ = some v1 ∧ y.cell? ⟨g2, o2, none⟩ = some v2 :=
  ⟨(hb.cell (p := ⟨g1, o1, none⟩) h1).trans h.1, (hb.cell (p := ⟨g2, o2, none⟩) h2).trans h.2⟩

set_option maxHeartbeats 4000000 in
theorem RMay13_any (v u : Value) (n m : Nat) (N : Nat → Nd) (f : Nat → Int) (w : World) (hv : NdsAt w v n N) (hn : n ≤ 1000000) (hu : IntsAt w u m f) :
    Calls Try.prog 9 #[.agg #[v], u] w fun x w' => x = .returned (.bool (mayT n N m f)) ∧ Below w.heap.size w w' := by
  have hv' := Lib.hid hv
  obtain ⟨A, c, rfl, hcap, _, hcs⟩ := hv
  obtain ⟨hc0, hc1⟩ := hcap
  obtain ⟨U, cu, rfl, hm, hRu, hcu⟩ := hu
  have hcu' := Lib.hid hcu
  have hRu' := Lib.hid hRu
  have hx0 := (Bx.nil w).one (.slice A n c) 33
  clear hcu hRu
  by_cases hch : CheckP n N
  · obtain ⟨b, o, rfl, hbl, hcs⟩ := hcs (by have := hch.two; omega)
    have hcs' := Lib.hid hcs
    have hy := Lib.hid (check_yes hch)
    have hR := Lib.hid (mayT_chk hch m f)
    clear hch hcs
    go_enter Try.func9, Try.ntmps9
    go_wp2_with fail
    refine (RCheck_any _ n N _ (hv'.out.below hx0.bel) hn).mono ?_
    rintro x w2 ⟨rfl, hb2⟩
    rw [hy.out]
    have hx2 := hx0.step hb2
    clear hb2 hx0
    go_wp2
    go_loopw [5] (fun i wr => ∃ j : Nat, j ≤ m ∧ i = .int .i64 j ∧ Hid (anyBadL n N f j = false) ∧ Bx w ((w.heap.size, 0, .slice (some ⟨b, o, none⟩) n c) :: []) wr) (fun i _ => m - (intOf i).toNat)
    case atStart => exact ⟨0, Nat.zero_le _, rfl, rfl, hx2⟩
    case round =>
      clear hx2
      obtain ⟨j, hj, rfl, hs, hx⟩ := hrel
      have hx' := Lib.hid hx
      obtain ⟨⟨q0, z0⟩, -⟩ := hx.cells
      by_cases hlt : j < m
      · obtain ⟨lb, lo, rfl, hlb, hcl⟩ := hcu'.out (by omega)
        have hl := (hx.bel.cell (p := ⟨lb, lo + j, none⟩) hlb).trans (hcl j hlt)
        have hRj := hRu'.out j hlt
        have hz := hx.bel.size
        have i1 : (j : Int) < (m : Int) := by omega
        have hlb' : lb < wr.drew.heap.size := by show lb < wr.heap.size; omega
        have hbl' : b < wr.drew.heap.size := by show b < wr.heap.size; omega
        clear hcl
        by_cases h0 : f j < 0
        · have hno : Hid (anyBadL n N f m = true) := anyBadL_at hlt (by unfold badLit; simp [h0])
          have d0 : decide (f j < 0) = true := by simpa using h0
          clear h0 hx
          go_wp2
          go_quiet (fail)
          go_wp2
          go_ret
          exact ⟨ret_bool (by rw [hR.out, hno.out]; rfl), below_drewN hx'.out.bel _⟩
        · have d0 : decide (f j < 0) = false := by simpa using h0
          have hR2 : R64 (f j / 2) := by obtain ⟨p, q⟩ := hRj; unfold R64; omega
          have hPN := fun x => Node13_any (f j) x hRj
          have hPS := Rsort_any (.slice (some ⟨b, o, none⟩) n c) n N (f j / 2) wr.drew (hv'.out.below hx.drew.bel) hn hR2
          by_cases h1 : sortN n N (f j / 2) = 0
          · obtain ⟨k0, k1⟩ : 0 ≤ f j / 2 ∧ f j / 2 < n := by
              unfold sortN at h1
              split at h1
              · assumption
              · omega
            have hkn : (f j / 2).toNat < n := by omega
            have hnd := (hcs'.out _ hkn).below hx.bel hbl
            have hbad : Hid (badLit n N (f j) = ((N (f j / 2).toNat).op == 1)) := by unfold Hid badLit; rw [h1]; simp [h0]
            rw [h1] at hPS
            have hS0 : wr.drew.cell? ⟨w.heap.size, 0, none⟩ = some (.slice (some ⟨b, o, none⟩) n c) ∧ wr.drew.cell? ⟨lb, lo + j, none⟩ = some (.int .i64 (f j)) ∧ wr.drew.cell? ⟨b, o + (f j / 2).toNat * 8, none⟩ = some (.int .i8 (N (f j / 2).toNat).op) := ⟨q0, hl, hnd.1⟩
            have hS0' := Lib.hid hS0
            clear hS0 h0 h1 hx
            go_wp2
            clear q0 hl hnd
            go_region_held3 (fun x => x.cell? ⟨w.heap.size, 0, none⟩ = some (.slice (some ⟨b, o, none⟩) n c) ∧ x.cell? ⟨lb, lo + j, none⟩ = some (.int .i64 (f j)) ∧ x.cell? ⟨b, o + (f j / 2).toNat * 8, none⟩ = some (.int .i8 (N (f j / 2).toNat).op))
              (first | exact hS0'.out | exact hS1 | fail)
              (first | (go_at_call 23; (with_reducible refine Calls.mono (hPN _) ?_); rintro e w' ⟨rfl, rfl⟩) | (go_at_call 22; (with_reducible refine Calls.mono hPS ?_); rintro e w5 ⟨rfl, hb5⟩; have hx5 := hx'.out.drew.step hb5; have hS1 : w5.cell? ⟨w.heap.size, 0, none⟩ = some (.slice (some ⟨b, o, none⟩) n c) ∧ w5.cell? ⟨lb, lo + j, none⟩ = some (.int .i64 (f j)) ∧ w5.cell? ⟨b, o + (f j / 2).toNat * 8, none⟩ = some (.int .i8 (N (f j / 2).toNat).op) := (mhold hb5 hS0'.out z0 hlb' hbl')))
            cases hop : ((N (f j / 2).toNat).op == 1) with
            | true =>
              have hno : Hid (anyBadL n N f m = true) := anyBadL_at hlt (by rw [hbad.out, hop])
              clear hop
              go_wp2
              go_ret
              exact ⟨ret_bool (by rw [hR.out, hno.out]; rfl), hx5.bel⟩
            | false =>
              have hno : Hid (anyBadL n N f (j + 1) = false) := by unfold Hid; rw [anyBadL, hs.out, hbad.out, hop]; rfl
              clear hop
              go_wp2
              go_roundw
              case rel => exact ⟨j + 1, by omega, by go_num, hno, hx5⟩
              case measure => simp [intOf]; omega
          · have hno : Hid (anyBadL n N f m = true) := anyBadL_at hlt (by unfold badLit; simp [h1])
            have d1 : (sortN n N (f j / 2) != 0) = true := by simpa using h1
            have hS0 : wr.drew.cell? ⟨w.heap.size, 0, none⟩ = some (.slice (some ⟨b, o, none⟩) n c) ∧ wr.drew.cell? ⟨lb, lo + j, none⟩ = some (.int .i64 (f j)) := ⟨q0, hl⟩
            have hS0' := Lib.hid hS0
            clear hS0 h0 h1 hx
            have hPS' : ∀ x, Bx w ((w.heap.size, 0, .slice (some ⟨b, o, none⟩) n c) :: []) x → Calls Try.prog 22 #[.agg #[.slice (some ⟨b, o, none⟩) n c], .int .i64 (f j / 2)] x fun e w' => e = .returned (.int .i64 (sortN n N (f j / 2))) ∧ Below x.heap.size x w' := fun x hx => Rsort_any _ n N (f j / 2) x (hv'.out.below hx.bel) hn hR2
            generalize sortN n N (f j / 2) = s at *
            go_wp2
            clear q0 hl
            refine region_cls (fun x => x.cell? ⟨w.heap.size, 0, none⟩ = some (.slice (some ⟨b, o, none⟩) n c) ∧ x.cell? ⟨lb, lo + j, none⟩ = some (.int .i64 (f j)) ∧ Bx w ((w.heap.size, 0, .slice (some ⟨b, o, none⟩) n c) :: []) x) (by kernel_rfl) (by kernel_rfl) ⟨hS0'.out.1, hS0'.out.2, hx'.out.drew⟩ ?_
            repeat (first
              | go_big_quiet_skip
              | (go_big_quiet_want; first
                | (go_big_quiet_op; go_big_quiet_on)
                | (unfold Oper.quiet; apply Exists.intro; refine ⟨fun x hx => ?_, ?_⟩; (obtain ⟨c0, c1, cb⟩ := hx; unfold Oper.quietAt; first
                    | (go_simp; exact ⟨rfl, rfl⟩)
                    | (go_simp; exact rfl)
                    | (go_simp; done)
                    | (go_simp; go_at_call 23; refine (Node13_any (f j) _ hRj).mono ?_; rintro e w' ⟨rfl, rfl⟩; exact ⟨rfl, c0, c1, cb⟩)
                    | (go_simp; go_at_call 22; refine (hPS' x cb).mono ?_; rintro e w' ⟨rfl, hb'⟩; exact ⟨rfl, (cb.step hb').cells.1.1, (hb'.cell (p := ⟨lb, lo + j, none⟩) (Nat.lt_of_lt_of_le hlb cb.bel.size)).trans c1, cb.step hb'⟩)
                    | fail); go_simp; go_big_quiet_on)))
            refine wpQuiet_nil ?_
            intro w' hw'
            go_wp2
            go_ret
            exact ⟨ret_bool (by rw [hR.out, hno.out]; rfl), hw'.2.2.bel⟩
      · obtain rfl : j = m := by omega
        go_wp2
        go_ret
        exact ⟨ret_bool (by rw [hR.out, hs.out]; rfl), hx'.out.bel⟩
  · have hy := Lib.hid (check_not hch)
    have hR := Lib.hid (mayT_no hch m f)
    clear hch hcs
    go_enter Try.func9, Try.ntmps9
    go_wp2_with fail
    refine (RCheck_any _ n N _ (hv'.out.below hx0.bel) hn).mono ?_
    rintro x w2 ⟨rfl, hb2⟩
    rw [hy.out]
    have hx2 := hx0.step hb2
    go_wp2
    go_ret
    exact ⟨ret_bool hR.out.symm, hx2.bel⟩
end Go.Proofs.Ytioceechdombjaa
