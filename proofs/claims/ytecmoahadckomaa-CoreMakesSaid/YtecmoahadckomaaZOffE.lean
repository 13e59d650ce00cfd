/- offset.Ordered, gantryref11.Ordered. -/
import Derived.Test.YtecmoahadckomaaZOffL
import Derived.Test.YtecmoahadckomaaZTermCTermDaRCheck
import Derived.Test.YtecmoahadckomaaZIntsToNumW
import Derived.Test.YtecmoahadckomaaZCheckB
namespace Go.Proofs.Ytecmoahadckomaa
open Go.RowKit Go.Maps
set_option maxRecDepth 100000

def ordBad (e : Nd) (of : Int) : Bool := e.op == 11 && (e.num == 0 || of == 11 || of == 10)
def badN (N : Nat → Nd) (i : Nat) : Bool := ordBad (N i) (N (N i).a0.toNat).op
def anyBad (N : Nat → Nd) : Nat → Bool
  | 0 => false
  | k + 1 => anyBad N k || badN N k
theorem anyBad_iff (N : Nat → Nd) (k : Nat) : anyBad N k = false ↔ ∀ i, i < k → badN N i = false := by
  induction k with
  | zero => simp [anyBad]
  | succ k ih =>
    rw [anyBad, Bool.or_eq_false_iff, ih]
    constructor
    · rintro ⟨h1, h2⟩ i hi
      by_cases e : i = k
      · subst e; exact h2
      · exact h1 i (by omega)
    · exact fun h => ⟨fun i hi => h i (by omega), h k (by omega)⟩
theorem anyBad_at {N : Nat → Nd} {k i : Nat} (hi : i < k) (h : badN N i = true) : anyBad N k = true := by
  cases hk : anyBad N k with
  | true => rfl
  | false => rw [(anyBad_iff N k).1 hk i hi] at h; cases h
noncomputable def ordB (n : Nat) (N : Nat → Nd) : Bool := checkB n N && !anyBad N n
theorem ordB_iff {n : Nat} {N : Nat → Nd} : ordB n N = true ↔ OrdP n N := by
  unfold ordB
  rw [Bool.and_eq_true, checkB_iff, Bool.not_eq_true', anyBad_iff]
  constructor
  · rintro ⟨h1, h2⟩
    refine ⟨h1, fun i hi h11 => ?_⟩
    have := h2 i hi
    unfold badN ordBad at this
    simp [h11] at this
    exact ⟨this.1.1, this.1.2, this.2⟩
  · rintro ⟨h1, h2⟩
    refine ⟨h1, fun i hi => ?_⟩
    unfold badN ordBad
    by_cases h11 : (N i).op = 11
    · obtain ⟨g1, g2, g3⟩ := h2 i hi h11
      simp [g1, g2, g3]
    · simp [h11]
theorem ordB_chk {n : Nat} {N : Nat → Nd} (h : CheckP n N) : ordB n N = !anyBad N n := by unfold ordB; rw [checkB_yes h]; rfl
theorem ordB_no {n : Nat} {N : Nat → Nd} (h : ¬ CheckP n N) : ordB n N = false := by unfold ordB; rw [checkB_no h]; rfl

set_option maxHeartbeats 1000000 in
theorem Ord1_any (e : Nd) (B b o n c : Nat) (N : Nat → Nd) (w : World) (he : NdR e) (hB : w.cell? ⟨B, 0, none⟩ = some (.slice (some ⟨b, o, none⟩) n c)) (hBs : B < w.heap.size) (hbl : b < w.heap.size) (hcs : ∀ i, i < n → NdIn w b (o + i * 8) (N i)) (_hn : n ≤ 1000000) (ha : e.op = 11 → 0 ≤ e.a0 ∧ e.a0 < n) :
    Calls Try.prog 51 #[ndV e, .pointer (some ⟨B, 0, none⟩)] w fun x w' => x = .returned (.bool (ordBad e (N e.a0.toNat).op)) ∧ Below w.heap.size w w' := by
  unfold ndV
  obtain ⟨_, _, ha0, _, _, _, _, _⟩ := he
  by_cases h11 : e.op = 11
  · obtain ⟨a1, a2⟩ := ha h11
    obtain ⟨j, hj⟩ := Int.eq_ofNat_of_zero_le a1
    have hjn : j < n := by omega
    have hjn' : (j : Int) < (n : Int) := by omega
    have hR : Hid (ordBad e (N (j : Int).toNat).op = (e.num == 0 || (N j).op == 11 || (N j).op == 10)) := by
      unfold Hid ordBad
      rw [Int.toNat_natCast]; simp [h11]
    obtain ⟨x0, x1, x2, x3, x4, x5, x6, x7⟩ := hcs j hjn
    have d11 : (e.op != 11) = false := by simp [h11]
    clear hcs ha h11 a1 a2
    rw [hj]
    clear hj ha0
    cases h0 : (e.num == 0) with
    | true =>
      rw [h0] at hR
      go_enter Try.func51, Try.ntmps51
      go_wp2
      go_ret
      exact ⟨ret_bool (by rw [hR.out]; rfl), (Below.refl _ _).alloc (Nat.le_refl _) _⟩
    | false =>
      rw [h0] at hR
      cases h1 : ((N j).op == 11) with
      | true =>
        rw [h1] at hR
        go_enter Try.func51, Try.ntmps51
        go_wp2
        go_ret
        exact ⟨ret_bool (by rw [hR.out]; rfl), (Below.refl _ _).alloc (Nat.le_refl _) _⟩
      | false =>
        rw [h1] at hR
        go_enter Try.func51, Try.ntmps51
        go_wp2
        go_ret
        exact ⟨ret_bool (by rw [hR.out]; rfl), (Below.refl _ _).alloc (Nat.le_refl _) _⟩
  · have d11 : (e.op != 11) = true := by simpa using h11
    have hR : Hid (ordBad e (N e.a0.toNat).op = false) := by
      unfold Hid ordBad
      simp [h11]
    clear hcs ha h11
    go_enter Try.func51, Try.ntmps51
    go_wp2
    go_ret
    exact ⟨ret_bool hR.out.symm, (Below.refl _ _).alloc (Nat.le_refl _) _⟩

theorem badN_a0 {n : Nat} {N : Nat → Nd} (h : CheckP n N) {i : Nat} (hi : i < n) : (N i).op = 11 → 0 ≤ (N i).a0 ∧ (N i).a0 < n := fun h11 => by
  have := (h.add hi h11).2.1; omega
def IdxPost (N : Nat → Nd) (n : Nat) (w : World) (x : Ending) (w' : World) : Prop :=
  ∃ r : Int, x = .returned (.int .i64 r) ∧ ((0 ≤ r ∧ anyBad N n = true) ∨ (r = -1 ∧ anyBad N n = false)) ∧ Below w.heap.size w w'
set_option maxHeartbeats 1000000 in
theorem OrdIdx_any (B b o n c : Nat) (N : Nat → Nd) (w : World) (hv : NdsAt w (.slice (some ⟨b, o, none⟩) n c) n N) (hB : w.cell? ⟨B, 0, none⟩ = some (.slice (some ⟨b, o, none⟩) n c)) (hBs : B < w.heap.size) (hbl : b < w.heap.size) (hcs : ∀ i, i < n → NdIn w b (o + i * 8) (N i)) (hn : n ≤ 1000000) (hch : CheckP n N) :
    Calls Try.prog 79 #[.slice (some ⟨b, o, none⟩) n c, .func (.func 51) #[] #[.pointer (some ⟨B, 0, none⟩)]] w (IdxPost N n w) := by
  have hr := Lib.hid hv.ranges
  have hcs' := Lib.hid hcs
  have hch' := Lib.hid hch
  clear hv hcs hch
  go_enter Try.func79, Try.ntmps79
  go_wp2
  go_loopw [8] (fun i wr => ∃ j : Nat, j ≤ n ∧ i = .int .i64 j ∧ Hid (anyBad N j = false) ∧ Below w.heap.size w wr) (fun i _ => n - (intOf i).toNat)
  case atStart => exact ⟨0, Nat.zero_le _, rfl, rfl, Below.refl _ _⟩
  case round =>
    obtain ⟨j, hj, rfl, hs, hb⟩ := hrel
    by_cases hlt : j < n
    · obtain ⟨e0, e1, e2, e3, e4, e5, e6, e7⟩ := (hcs'.out j hlt).below hb hbl
      have hz := hb.size
      go_wp2_with fail
      refine (Ord1_any (N j) B b o n c N wr (hr.out j hlt) ((hb.cell (p := ⟨B, 0, none⟩) hBs).trans hB) (by omega) (by omega) (fun i hi => (hcs'.out i hi).below hb hbl) hn (badN_a0 hch'.out hlt)).mono ?_
      rintro x w2 ⟨rfl, hb2⟩
      have hbw := Lib.hid (hb.trans (hb2.mono hz))
      cases hbad : ordBad (N j) (N (N j).a0.toNat).op with
      | true =>
        have hy := Lib.hid (anyBad_at (N := N) hlt hbad)
        clear e0 e1 e2 e3 e4 e5 e6 e7 hbad
        go_wp2
        go_ret
        exact ⟨j, rfl, .inl ⟨by omega, hy.out⟩, hbw.out⟩
      | false =>
        have hno : Hid (anyBad N (j + 1) = false) := by unfold Hid; rw [anyBad, hs.out]; exact hbad
        clear e0 e1 e2 e3 e4 e5 e6 e7 hbad
        go_wp2
        go_roundw
        case rel => exact ⟨j + 1, by omega, by go_num, hno, hbw.out⟩
        case measure => simp [intOf]; omega
    · obtain rfl : j = n := by omega
      go_wp2
      go_ret
      exact ⟨-1, rfl, .inr ⟨rfl, hs.out⟩, hb⟩
theorem OrdCon_any (B b o n c : Nat) (N : Nat → Nd) (w : World) (hv : NdsAt w (.slice (some ⟨b, o, none⟩) n c) n N) (hB : w.cell? ⟨B, 0, none⟩ = some (.slice (some ⟨b, o, none⟩) n c)) (hBs : B < w.heap.size) (hbl : b < w.heap.size) (hcs : ∀ i, i < n → NdIn w b (o + i * 8) (N i)) (hn : n ≤ 1000000) (hch : CheckP n N) :
    Calls Try.prog 50 #[.slice (some ⟨b, o, none⟩) n c, .func (.func 51) #[] #[.pointer (some ⟨B, 0, none⟩)]] w fun x w' => x = .returned (.bool (anyBad N n)) ∧ Below w.heap.size w w' := by
  have hI := Lib.hid (OrdIdx_any B b o n c N w hv hB hBs hbl hcs hn hch)
  clear hv hcs hch
  go_enter Try.func50, Try.ntmps50
  go_wp2_with fail
  refine hI.out.mono ?_
  rintro x w2 ⟨r, rfl, hr, hb2⟩
  rcases hr with ⟨h0, hy⟩ | ⟨h0, hy⟩
  · have d0 : decide (0 ≤ r) = true := by simpa using h0
    have hy' := Lib.hid hy
    clear hy h0
    go_wp2
    go_ret
    exact ⟨ret_bool hy'.out.symm, hb2⟩
  · subst h0
    have hy' := Lib.hid hy
    clear hy
    go_wp2
    go_ret
    exact ⟨ret_bool hy'.out.symm, hb2⟩

set_option maxHeartbeats 1000000 in
theorem Ordered_any (v : Value) (n : Nat) (N : Nat → Nd) (w : World) (hv : NdsAt w v n N) (hn : n ≤ 1000000) :
    Calls Try.prog 26 #[.agg #[v]] w fun x w' => x = .returned (.bool (ordB n N)) ∧ Below w.heap.size w w' := by
  have hv' := Lib.hid hv
  obtain ⟨A, c, rfl, _, _, hcs⟩ := hv
  have hx0 := (Bx.nil w).one (.slice A n c) 24
  by_cases hch : CheckP n N
  · obtain ⟨b, o, rfl, hbl, hcs⟩ := hcs (by have := hch.two; omega)
    have hcs' := Lib.hid hcs
    have hch' := Lib.hid hch
    have hy := Lib.hid (check_yes hch)
    have hR := Lib.hid (ordB_chk hch)
    clear hcs hch
    go_enter Try.func26, Try.ntmps26
    go_wp2_with fail
    refine (Check_any _ n N _ (hv'.out.below hx0.bel) hn).mono ?_
    rintro x w2 ⟨rfl, hb2⟩
    rw [hy.out]
    have hx2 := hx0.step hb2
    obtain ⟨⟨q0, z0⟩, -⟩ := hx2.cells
    have hsz := hx2.bel.size
    go_wp2_with fail
    refine (OrdCon_any w.heap.size b o n c N w2 (hv'.out.below hx2.bel) q0 z0 (by omega) (fun i hi => (hcs'.out i hi).below hx2.bel hbl) hn hch'.out).mono ?_
    rintro x w3 ⟨rfl, hb3⟩
    have hx3 := hx2.step hb3
    go_wp2
    go_ret
    exact ⟨ret_bool hR.out.symm, hx3.bel⟩
  · have hy := Lib.hid (check_not hch)
    have hR := Lib.hid (ordB_no hch)
    clear hch hcs
    go_enter Try.func26, Try.ntmps26
    go_wp2_with fail
    refine (Check_any _ n N _ (hv'.out.below hx0.bel) hn).mono ?_
    rintro x w2 ⟨rfl, hb2⟩
    rw [hy.out]
    have hx2 := hx0.step hb2
    go_wp2
    go_ret
    exact ⟨ret_bool hR.out.symm, hx2.bel⟩

set_option maxHeartbeats 2000000 in
theorem ROrdered_any (v : Value) (n : Nat) (N : Nat → Nd) (w : World) (hv : NdsAt w v n N) (hn : n ≤ 1000000) :
    Calls Try.prog 14 #[.agg #[v]] w fun x w' => x = .returned (.bool (ordB n N)) ∧ Below w.heap.size w w' := by
  have hv' := Lib.hid hv
  have hr := Lib.hid hv.ranges
  obtain ⟨A, c, rfl, hcap, _, hcs⟩ := hv
  obtain ⟨hc0, hc1⟩ := hcap
  have hx0 := (Bx.nil w).one (.slice A n c) 24
  by_cases hch : CheckP n N
  · obtain ⟨b, o, rfl, hbl, hcs⟩ := hcs (by have := hch.two; omega)
    have hcs' := Lib.hid hcs
    have hch' := Lib.hid hch
    have hy := Lib.hid (check_yes hch)
    have hR := Lib.hid (ordB_chk hch)
    clear hcs hch
    go_enter Try.func14, Try.ntmps14
    go_wp2_with fail
    refine (RCheck_any _ n N _ (hv'.out.below hx0.bel) hn).mono ?_
    rintro x w2 ⟨rfl, hb2⟩
    rw [hy.out]
    have hx2 := hx0.step hb2
    clear hb2 hx0
    go_wp2
    go_loopw [3] (fun i wr => ∃ j : Nat, j ≤ n ∧ i = .int .i64 j ∧ Hid (anyBad N j = false) ∧ Bx w ((w.heap.size, 0, .slice (some ⟨b, o, none⟩) n c) :: []) wr) (fun i _ => n - (intOf i).toNat)
    case atStart => exact ⟨0, Nat.zero_le _, rfl, rfl, hx2⟩
    case round =>
      clear hx2
      obtain ⟨j, hj, rfl, hs, hx⟩ := hrel
      obtain ⟨⟨q0, z0⟩, -⟩ := hx.cells
      by_cases hlt : j < n
      · obtain ⟨e0, e1, e2, e3, e4, e5, e6, e7⟩ := (hcs'.out j hlt).below hx.bel hbl
        have i1 : (j : Int) < (n : Int) := by omega
        by_cases h11 : (N j).op = 11
        · have d11 : ((N j).op != 11) = false := by simp [h11]
          have ha := badN_a0 hch'.out hlt h11
          obtain ⟨m, hm⟩ := Int.eq_ofNat_of_zero_le ha.1
          have hmn : m < n := by omega
          have i2 : (m : Int) < (n : Int) := by omega
          obtain ⟨f0, f1, f2, f3, f4, f5, f6, f7⟩ := (hcs'.out m hmn).below hx.bel hbl
          have hbad : Hid (badN N j = ((N j).num == 0 || (N m).op == 11 || (N m).op == 10)) := by
            unfold Hid badN ordBad
            rw [hm, Int.toNat_natCast]; simp [h11]
          rw [hm] at e2
          clear hm ha h11
          cases h0 : ((N j).num == 0) with
          | true =>
            rw [h0] at hbad
            have hno := Lib.hid (anyBad_at (N := N) hlt hbad.out)
            go_wp2
            go_quiet (fail)
            go_wp2
            go_ret
            exact ⟨ret_bool (by rw [hR.out, hno.out]; rfl), below_drewN hx.bel _⟩
          | false =>
            rw [h0] at hbad
            cases h1 : ((N m).op == 11) with
            | true =>
              rw [h1] at hbad
              have hno := Lib.hid (anyBad_at (N := N) hlt hbad.out)
              go_wp2
              go_quiet (fail)
              go_wp2
              go_ret
              exact ⟨ret_bool (by rw [hR.out, hno.out]; rfl), below_drewN hx.bel _⟩
            | false =>
              rw [h1] at hbad
              cases h2 : ((N m).op == 10) with
              | true =>
                rw [h2] at hbad
                have hno := Lib.hid (anyBad_at (N := N) hlt hbad.out)
                go_wp2
                go_quiet (fail)
                go_wp2
                go_ret
                exact ⟨ret_bool (by rw [hR.out, hno.out]; rfl), below_drewN hx.bel _⟩
              | false =>
                rw [h2] at hbad
                have hno : Hid (anyBad N (j + 1) = false) := by unfold Hid; rw [anyBad, hs.out]; exact hbad.out
                go_wp2
                go_quiet (fail)
                go_wp2
                go_roundw
                case rel => exact ⟨j + 1, by omega, by go_num, hno, hx.drewN _⟩
                case measure => simp [intOf]; omega
        · have d11 : ((N j).op != 11) = true := by simpa using h11
          have hno : Hid (anyBad N (j + 1) = false) := by
            unfold Hid; rw [anyBad, hs.out]
            unfold badN ordBad; simp [h11]
          clear h11
          go_wp2
          go_roundw
          case rel => exact ⟨j + 1, by omega, by go_num, hno, hx⟩
          case measure => simp [intOf]; omega
      · obtain rfl : j = n := by omega
        go_wp2
        go_ret
        exact ⟨ret_bool (by rw [hR.out, hs.out]; rfl), hx.bel⟩
  · have hy := Lib.hid (check_not hch)
    have hR := Lib.hid (ordB_no hch)
    clear hch hcs
    go_enter Try.func14, Try.ntmps14
    go_wp2_with fail
    refine (RCheck_any _ n N _ (hv'.out.below hx0.bel) hn).mono ?_
    rintro x w2 ⟨rfl, hb2⟩
    rw [hy.out]
    have hx2 := hx0.step hb2
    go_wp2
    go_ret
    exact ⟨ret_bool hR.out.symm, hx2.bel⟩
end Go.Proofs.Ytecmoahadckomaa
