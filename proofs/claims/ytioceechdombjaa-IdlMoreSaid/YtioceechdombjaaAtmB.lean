/- atoms.May, gantryref13.May. -/
import Derived.Test.YtioceechdombjaaAtmA
import Derived.Test.YtioceechdombjaaCheckB
import Derived.Deep.RegionHeld3
namespace Go.Proofs.Ytioceechdombjaa
open Go.RowKit Go.Maps
set_option maxRecDepth 100000

def badLit (n : Nat) (N : Nat → Nd) (x : Int) : Bool := decide (x < 0) || (sortN n N (x / 2) != 0) || ((N (x / 2).toNat).op == 1)
def anyBadL (n : Nat) (N : Nat → Nd) (f : Nat → Int) : Nat → Bool
  | 0 => false
  | k + 1 => anyBadL n N f k || badLit n N (f k)
theorem anyBadL_iff (n : Nat) (N : Nat → Nd) (f : Nat → Int) (k : Nat) : anyBadL n N f k = false ↔ ∀ i, i < k → badLit n N (f i) = false := by
  induction k with
  | zero => simp [anyBadL]
  | succ k ih =>
    rw [anyBadL, Bool.or_eq_false_iff, ih]
    constructor
    · rintro ⟨h1, h2⟩ i hi
      by_cases e : i = k
      · subst e; exact h2
      · exact h1 i (by omega)
    · exact fun h => ⟨fun i hi => h i (by omega), h k (by omega)⟩
theorem anyBadL_at {n : Nat} {N : Nat → Nd} {f : Nat → Int} {k i : Nat} (hi : i < k) (h : badLit n N (f i) = true) : anyBadL n N f k = true := by
  cases hk : anyBadL n N f k with
  | true => rfl
  | false => rw [(anyBadL_iff n N f k).1 hk i hi] at h; cases h
/-- May literals stand? -/
noncomputable def mayT (n : Nat) (N : Nat → Nd) (m : Nat) (f : Nat → Int) : Bool := checkB n N && !anyBadL n N f m
theorem mayT_chk {n : Nat} {N : Nat → Nd} (h : CheckP n N) (m : Nat) (f : Nat → Int) : mayT n N m f = !anyBadL n N f m := by unfold mayT; rw [checkB_yes h]; rfl
theorem mayT_no {n : Nat} {N : Nat → Nd} (h : ¬ CheckP n N) (m : Nat) (f : Nat → Int) : mayT n N m f = false := by unfold mayT; rw [checkB_no h]; rfl
theorem badLit_lt {n : Nat} {N : Nat → Nd} {x : Int} (h : badLit n N x = false) : 0 ≤ x ∧ (x / 2).toNat < n ∧ (N (x / 2).toNat).sort = 0 ∧ (N (x / 2).toNat).op ≠ 1 := by
  unfold badLit at h
  simp only [Bool.or_eq_false_iff, decide_eq_false_iff_not, bne_eq_false_iff_eq, beq_eq_false_iff_ne, ne_eq] at h
  obtain ⟨⟨h0, h1⟩, h2⟩ := h
  unfold sortN at h1
  split at h1
  · exact ⟨by omega, by omega, h1, h2⟩
  · omega

set_option maxHeartbeats 1000000 in
theorem May1_any (x : Int) (B : Nat) (A : Option Addr) (n c : Nat) (N : Nat → Nd) (w : World) (hB : w.cell? ⟨B, 0, none⟩ = some (.slice A n c)) (hv : NdsAt w (.slice A n c) n N) (hn : n ≤ 1000000) (hx : R64 x) :
    Calls Try.prog 51 #[.int .i64 x, .pointer (some ⟨B, 0, none⟩)] w fun e w' => e = .returned (.bool (badLit n N x)) ∧ w = w' := by
  have hv' := Lib.hid hv
  obtain ⟨hx0, hx1⟩ := hx
  by_cases h0 : x < 0
  · have hR : Hid (badLit n N x = true) := by unfold Hid badLit; simp [h0]
    have d0 : decide (x < 0) = true := by simpa using h0
    clear h0 hv
    go_enter Try.func51, Try.ntmps51
    go_wp2
    go_ret
    exact ⟨ret_bool hR.out.symm, rfl⟩
  · have d0 : decide (x < 0) = false := by simpa using h0
    have hx2 : 0 ≤ x := by omega
    by_cases h1 : sortN n N (x / 2) = 0
    · have hin : 0 ≤ x / 2 ∧ x / 2 < n := by
        unfold sortN at h1
        split at h1
        · assumption
        · omega
      have hjn : (x / 2).toNat < n := by omega
      have hR : Hid (badLit n N x = ((N (x / 2).toNat).op == 1)) := by unfold Hid badLit; rw [h1]; simp [h0]
      have h1' := Lib.hid h1
      obtain ⟨i0, i1⟩ := hin
      obtain ⟨A', c', eA, hc, _, hcs⟩ := hv
      injection eA with eA1 _ eA3
      subst eA1
      have eA3' := Lib.hid eA3
      clear eA3
      obtain ⟨b, o, rfl, hbl, hcs⟩ := hcs (by omega)
      obtain ⟨e0, e1, e2, e3, e4, e5, e6, e7⟩ := hcs _ hjn
      clear hcs h1 h0
      go_enter Try.func51, Try.ntmps51
      go_wp2_with fail
      refine (Asort_any B _ n c N (x / 2) w hB hv'.out hn (by unfold R64; omega)).mono ?_
      rintro e w2 ⟨rfl, rfl⟩
      rw [h1'.out]
      go_wp2
      go_ret
      exact ⟨ret_bool hR.out.symm, rfl⟩
    · have hR : Hid (badLit n N x = true) := by unfold Hid badLit; simp [h1]
      have d1 : (sortN n N (x / 2) != 0) = true := by simpa using h1
      have hRs := sortN_R hv (x / 2)
      clear h0 h1 hv
      go_enter Try.func51, Try.ntmps51
      go_wp2_with fail
      refine (Asort_any B _ n c N (x / 2) w hB hv'.out hn (by unfold R64; omega)).mono ?_
      rintro e w2 ⟨rfl, rfl⟩
      generalize sortN n N (x / 2) = s at *
      go_wp2
      go_ret
      exact ⟨ret_bool hR.out.symm, rfl⟩

def MIdxPost (n : Nat) (N : Nat → Nd) (m : Nat) (f : Nat → Int) (w : World) (x : Ending) (w' : World) : Prop :=
  ∃ r : Int, x = .returned (.int .i64 r) ∧ ((0 ≤ r ∧ anyBadL n N f m = true) ∨ (r = -1 ∧ anyBadL n N f m = false)) ∧ w = w'
set_option maxHeartbeats 1000000 in
theorem MayIdx_any (B : Nat) (A : Option Addr) (n c : Nat) (N : Nat → Nd) (u : Value) (m : Nat) (f : Nat → Int) (w : World) (hB : w.cell? ⟨B, 0, none⟩ = some (.slice A n c)) (hv : NdsAt w (.slice A n c) n N) (hn : n ≤ 1000000) (hu : IntsAt w u m f) :
    Calls Try.prog 69 #[u, .func (.func 51) #[] #[.pointer (some ⟨B, 0, none⟩)]] w (MIdxPost n N m f w) := by
  have hv' := Lib.hid hv
  clear hv
  obtain ⟨U, cu, rfl, hm, hR, hcu⟩ := hu
  have hcu' := Lib.hid hcu
  have hR' := Lib.hid hR
  clear hcu hR
  go_enter Try.func69, Try.ntmps69
  go_wp2
  go_loop [8] (fun i => ∃ j : Nat, j ≤ m ∧ i = .int .i64 j ∧ Hid (anyBadL n N f j = false)) (fun i => m - (intOf i).toNat)
  case atStart => exact ⟨0, Nat.zero_le _, rfl, rfl⟩
  case round =>
    obtain ⟨j, hj, rfl, hs⟩ := hrel
    by_cases hlt : j < m
    · obtain ⟨lb, lo, rfl, hlb, hcs⟩ := hcu'.out (by omega)
      have hc := hcs j hlt
      clear hcs
      go_wp2_with fail
      refine (May1_any (f j) B A n c N w hB hv'.out hn (hR'.out j hlt)).mono ?_
      rintro x w2 ⟨rfl, rfl⟩
      cases hbad : badLit n N (f j) with
      | true =>
        have hy := Lib.hid (anyBadL_at (n := n) (N := N) (f := f) hlt hbad)
        clear hbad
        go_wp2
        go_ret
        exact ⟨j, rfl, .inl ⟨by omega, hy.out⟩, rfl⟩
      | false =>
        have hno : Hid (anyBadL n N f (j + 1) = false) := by unfold Hid; rw [anyBadL, hs.out]; exact hbad
        clear hbad
        go_wp2
        go_round
        case rel => exact ⟨j + 1, by omega, by go_num, hno⟩
        case measure => simp [intOf]; omega
    · obtain rfl : j = m := by omega
      go_wp2
      go_ret
      exact ⟨-1, rfl, .inr ⟨rfl, hs.out⟩, rfl⟩
theorem MayCon_any (B : Nat) (A : Option Addr) (n c : Nat) (N : Nat → Nd) (u : Value) (m : Nat) (f : Nat → Int) (w : World) (hB : w.cell? ⟨B, 0, none⟩ = some (.slice A n c)) (hv : NdsAt w (.slice A n c) n N) (hn : n ≤ 1000000) (hu : IntsAt w u m f) :
    Calls Try.prog 50 #[u, .func (.func 51) #[] #[.pointer (some ⟨B, 0, none⟩)]] w fun x w' => x = .returned (.bool (anyBadL n N f m)) ∧ w = w' := by
  have hI := Lib.hid (MayIdx_any B A n c N u m f w hB hv hn hu)
  obtain ⟨U, cu, rfl, _, _, _⟩ := hu
  clear hv
  go_enter Try.func50, Try.ntmps50
  go_wp2_with fail
  refine hI.out.mono ?_
  rintro x w2 ⟨r, rfl, hr, rfl⟩
  rcases hr with ⟨h0, hy⟩ | ⟨h0, hy⟩
  · have d0 : decide (0 ≤ r) = true := by simpa using h0
    have hy' := Lib.hid hy
    clear hy h0 hI
    go_wp2
    go_ret
    exact ⟨ret_bool hy'.out.symm, rfl⟩
  · subst h0
    have hy' := Lib.hid hy
    clear hy hI
    go_wp2
    go_ret
    exact ⟨ret_bool hy'.out.symm, rfl⟩

set_option maxHeartbeats 1000000 in
theorem AMay_any (v u : Value) (n m : Nat) (N : Nat → Nd) (f : Nat → Int) (w : World) (hv : NdsAt w v n N) (hn : n ≤ 1000000) (hu : IntsAt w u m f) :
    Calls Try.prog 30 #[.agg #[v], u] w fun x w' => x = .returned (.bool (mayT n N m f)) ∧ Below w.heap.size w w' := by
  have hv' := Lib.hid hv
  have hu' := Lib.hid hu
  obtain ⟨A, c, rfl, _, _, _⟩ := hv
  obtain ⟨U, cu, rfl, _, _, _⟩ := hu
  have hx0 := (Bx.nil w).one (.slice A n c) 33
  by_cases hch : CheckP n N
  · have hy := Lib.hid (check_yes hch)
    have hR := Lib.hid (mayT_chk hch m f)
    clear hch
    go_enter Try.func30, Try.ntmps30
    go_wp2_with fail
    refine (Check_any _ n N _ (hv'.out.below hx0.bel) hn).mono ?_
    rintro x w2 ⟨rfl, hb2⟩
    rw [hy.out]
    have hx2 := hx0.step hb2
    obtain ⟨⟨q0, z0⟩, -⟩ := hx2.cells
    go_wp2_with fail
    refine (MayCon_any w.heap.size A n c N _ m f w2 q0 (hv'.out.below hx2.bel) hn (hu'.out.below hx2.bel)).mono ?_
    rintro x w3 ⟨rfl, rfl⟩
    go_wp2
    go_ret
    exact ⟨ret_bool hR.out.symm, hx2.bel⟩
  · have hy := Lib.hid (check_not hch)
    have hR := Lib.hid (mayT_no hch m f)
    clear hch
    go_enter Try.func30, Try.ntmps30
    go_wp2_with fail
    refine (Check_any _ n N _ (hv'.out.below hx0.bel) hn).mono ?_
    rintro x w2 ⟨rfl, hb2⟩
    rw [hy.out]
    have hx2 := hx0.step hb2
    go_wp2
    go_ret
    exact ⟨ret_bool hR.out.symm, hx2.bel⟩
end Go.Proofs.Ytioceechdombjaa
