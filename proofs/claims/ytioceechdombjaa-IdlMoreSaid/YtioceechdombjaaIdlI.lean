/- idl.Conflict. -/
import Derived.Test.YtioceechdombjaaIdlH
import Derived.Test.YtioceechdombjaaIdlP
namespace Go.Proofs.Ytioceechdombjaa
open Go.RowKit Go.Maps
set_option maxRecDepth 100000

set_option maxHeartbeats 4000000 in
theorem still_any (B b o n c : Nat) (N : Nat → Nd) (z : Value) (ys : List Int) (w : World) (hB : w.cell? ⟨B, 0, none⟩ = some (.slice (some ⟨b, o, none⟩) n c)) (hv : NdsAt w (.slice (some ⟨b, o, none⟩) n c) n N) (hn : n ≤ 4096) (hch : CheckP n N)
    (hu : IntsAt w z ys.length (gfn ys)) (hm : ys.length ≤ 1000) (hys : ∀ x ∈ ys, badLit n N x = false) (hBl : B < w.heap.size) :
    Calls Try.prog 38 #[z, .pointer (some ⟨B, 0, none⟩)] w fun e w' => e = .returned (.bool (icB n N ys)) ∧ Below w.heap.size w w' := by
  have hER := Lib.hid (eds_R hch (by omega) hys)
  have hd := (Below.refl w.heap.size w).drew
  have hEC := Edges_any _ _ n N ys w.drew (hv.below hd) (by omega) hch (hu.below hd) hm hys
  have hS0 : w.drew.cell? ⟨B, 0, none⟩ = some (.slice (some ⟨b, o, none⟩) n c) := hB
  have hPC := fun z x (h : OwnE x w.drew.heap.size z (edsL N ys)) => Pots_any (n : Int) z (icM N ys) (icF N ys) x (h.eds (eds_len hm) hER.out) (eds_len hm) (by omega) (by omega)
  obtain ⟨Z, zc, rfl, _, _, _⟩ := hu
  clear hv hch hys
  go_enter Try.func38, Try.ntmps38
  go_wp2
  go_region_held3 (fun y => y.cell? ⟨B, 0, none⟩ = some (.slice (some ⟨b, o, none⟩) n c))
      (first | exact hS0 | exact hS1 | exact hS2 | fail)
      (first | (go_at_call 16; (with_reducible refine Calls.mono hEC ?_); rintro e w5 ⟨z5, rfl, ho5, hb5⟩; have hS1 := (hb5.cell (p := ⟨B, 0, none⟩) hBl).trans hS0; have hP5 := hPC z5 w5 ho5)
             | (go_at_call 31; (with_reducible refine Calls.mono hP5 ?_); rintro e w6 ⟨u6, rfl, hI6, hb6⟩; have hS2 := (hb6.cell (p := ⟨B, 0, none⟩) (Nat.lt_of_lt_of_le hBl hb5.size)).trans hS1))
  have hbw : Below w.heap.size w w6 := (hd.trans hb5).trans (hb6.mono hb5.size)
  have hKe : checkR (n : Int) (icM N ys) (icF N ys) = icK n N ys := rfl
  have hBe : badR (n : Int) (icM N ys) (icF N ys) = icB n N ys := rfl
  rw [hKe, hBe]
  clear hEC hPC hP5 hS0 hS1 hS2 hb5 hb6 ho5 hKe hBe hI6 hB
  cases hb : icB n N ys with
  | true =>
    rw [icK_zero hb]
    have hR := Lib.hid hb
    clear hb
    go_wp2
    go_ret
    exact ⟨by first | rfl | (rw [hR.out]; rfl), hbw⟩
  | false =>
    have hR := Lib.hid hb
    clear hb
    go_wp2
    go_ret
    exact ⟨by first | rfl | (rw [hR.out]; rfl), hbw⟩

def lenS : Value → Nat
  | .slice _ n _ => n
  | _ => 0
def CfPost (n : Nat) (N : Nat → Nd) (xs : List Int) (w : World) (e : Ending) (w' : World) : Prop :=
  ∃ z c, e = .returned (.tuple #[z, .bool (ckB n N xs)]) ∧ OwnL w' w.heap.size z c ∧ (ckB n N xs = true → ConfP n N xs c) ∧ (ckB n N xs = false → c = []) ∧ Below w.heap.size w w'

set_option maxHeartbeats 4000000 in
theorem Conflict_any (v u : Value) (n : Nat) (N : Nat → Nd) (xs : List Int) (w : World) (hv : NdsAt w v n N) (hn : n ≤ 4096) (hch : CheckP n N) (hu : IntsAt w u xs.length (gfn xs)) (hm : xs.length ≤ 1000) (hxs : ∀ x ∈ xs, badLit n N x = false) :
    Calls Try.prog 17 #[.agg #[v], u] w (CfPost n N xs w) := by
  have hv' := Lib.hid hv
  have hu' := Lib.hid hu
  have hxs' := Lib.hid hxs
  have hch' := Lib.hid hch
  obtain ⟨A, c, rfl, _, _, hcs⟩ := hv
  obtain ⟨b, o, rfl, hbl, hcs⟩ := hcs (by have := hch.two; omega)
  obtain ⟨U, cu, rfl, _, _, _⟩ := hu
  have hx0 := (Bx.nil w).one (.slice (some ⟨b, o, none⟩) n c) 33
  clear hcs hch hxs
  go_enter Try.func17, Try.ntmps17
  go_wp2_with fail
  refine (ICheck_any _ _ n N xs _ (hv'.out.below hx0.bel) hn hch'.out (hu'.out.below hx0.bel) hm hxs'.out).mono ?_
  rintro e w2 ⟨z2, rfl, _, hb2⟩
  have hx2 := hx0.step hb2
  clear hb2 hx0
  cases hB : ckB n N xs with
  | false =>
    have hB' := Lib.hid hB
    clear hB
    go_wp2
    refine bodyPost_ret (results_tmp2 rfl _ _ _) rfl ⟨_, [], by rw [hB'.out]; rfl, OwnL.nil _ _, fun h => (by rw [hB'.out] at h; cases h), fun _ => rfl, hx2.bel⟩
  | true =>
    have hB' := Lib.hid hB
    have hbad : icB n N xs = true := by unfold ckB at hB; rw [Bool.and_eq_true] at hB; exact hB.2
    have hK0 := Lib.hid (icK_zero hbad)
    have hI0 : Hid (ConfI n N xs xs 0) := ⟨List.Sublist.refl _, hbad, fun j hj => absurd hj (Nat.not_lt_zero _), Nat.zero_le _⟩
    rw [ckE_zero hB]
    clear hB hbad
    go_wp2_with fail
    refine (Clone_any _ xs _ (hu'.out.below hx2.bel) hm).mono ?_
    rintro e w3 ⟨z3, rfl, ho3, hb3⟩
    have hx3 := Lib.hid (hx2.step hb3)
    have hsz := hx2.cells.1.2
    have ho3' := Lib.hid (ho3.base' (B' := w.heap.size + 1) hsz)
    clear hb3 hx2 ho3
    go_wp2
    go_loopw [1, 10] (fun z i wr => ∃ (cur : List Int) (j g cap : Nat), i = .int .i64 j ∧ z = .slice (some ⟨g, 0, none⟩) cur.length cap ∧ Hid (ConfI n N xs cur j) ∧ Hid (OwnL wr (w.heap.size + 1) z cur) ∧ Hid (Bx w ((w.heap.size, 0, .slice (some ⟨b, o, none⟩) n c) :: []) wr)) (fun z i _ => lenS z - (intOf i).toNat)
    case atStart =>
      obtain ⟨g, cap, hz, _, _⟩ := World.ownsRow.form ho3'.out hI0.out.ne
      exact ⟨xs, 0, g, cap, rfl, hz, hI0.out, ho3'.out, hx3.out⟩
    case round =>
      clear ho3' hx3 hI0
      obtain ⟨cur, j, g, cap, rfl, rfl, hI, hown, hx⟩ := hrel
      have hcl : cur.length ≤ 1000 := Nat.le_trans hI.out.sub.length_le hm
      have hcv : Hid (∀ x ∈ cur, badLit n N x = false) := fun x hx => hxs'.out x (hI.out.sub.subset hx)
      have hle := hI.out.le
      by_cases hlt : j < cur.length
      · have i1 : decide ((j : Int) < (cur.length : Int)) = true := decide_eq_true (by omega)
        have hints := Lib.hid (hown.out.ints (by omega) (fun x hx => (bad_R (by omega) (hcv.out x hx)).1))
        go_wp2_with fail
        refine (Clone_any _ cur wr hints.out hcl).mono ?_
        rintro e w4 ⟨z4, rfl, ho4, hb4⟩
        obtain ⟨g4, cap4, rfl, _, _⟩ := World.ownsRow.form ho4 (by omega)
        have hx4 := Lib.hid (hx.out.step hb4)
        have hb4' := Lib.hid hb4
        have ho4' := Lib.hid ho4
        have hz4 := hb4.size
        have hzw := hx.out.cells.1.2
        clear hb4 ho4
        go_wp2_with fail
        refine (Delete_any g4 cap4 j cur wr.heap.size w4 ho4'.out hlt hcl).mono ?_
        rintro e w5 ⟨rfl, ho5, hb5⟩
        have hx5 := Lib.hid (hx4.out.row1 (hb5.mono (by omega)))
        have hown5 := Lib.hid (hown.out.below (hb4'.out.trans hb5) (Nat.le_refl _))
        have hel : (cur.eraseIdx j).length = cur.length - 1 := List.length_eraseIdx_of_lt hlt
        have hev : Hid (∀ x ∈ cur.eraseIdx j, badLit n N x = false) := fun x hx => hcv.out x ((erase_sub cur j).subset hx)
        have hints5 := ho5.ints (by omega) (fun x hx => (bad_R (by omega) (hev.out x hx)).1)
        rw [hel] at hints5
        have ho5' := Lib.hid (ho5.base' (B' := w.heap.size + 1) (by omega))
        have hints5' : Hid (IntsAt w5 (.slice (some ⟨g4, 0, none⟩) (cur.length - 1) cap4) (cur.eraseIdx j).length (gfn (cur.eraseIdx j))) := by rw [hel]; exact hints5
        obtain ⟨⟨q5, z5⟩, -⟩ := hx5.out.cells
        clear hb5 ho5 hints5
        go_wp2_with fail
        refine (still_any w.heap.size b o n c N _ (cur.eraseIdx j) w5 q5 (hv'.out.below hx5.out.bel) hn hch'.out hints5'.out (by omega) hev.out z5).mono ?_
        rintro e w6 ⟨rfl, hb6⟩
        have hx6 := Lib.hid (hx5.out.step hb6)
        have ho6 := Lib.hid (ho5'.out.below hb6 (Nat.le_refl _))
        have hown6 := Lib.hid (hown5.out.below hb6 (Nat.le_refl _))
        clear hb6
        cases hst : icB n N (cur.eraseIdx j) with
        | true =>
          have hI' := Lib.hid (hI.out.down hch'.out hn hxs'.out hK0.out hlt hst)
          clear hst
          go_wp2
          go_roundw
          case rel => exact ⟨cur.eraseIdx j, j, g4, cap4, rfl, by rw [hel], hI'.out, ho6.out, hx6.out⟩
          case measure => simp [lenS, intOf]; omega
        | false =>
          have hI' := Lib.hid (hI.out.on hlt hst)
          clear hst
          go_wp2
          go_roundw
          case rel => exact ⟨cur, j + 1, g, cap, by go_num, rfl, hI'.out, hown6.out, hx6.out⟩
          case measure => simp [lenS, intOf]; omega
      · have i1 : decide ((j : Int) < (cur.length : Int)) = false := decide_eq_false (by omega)
        have hdone := Lib.hid (hI.out.done hlt)
        go_wp2
        exact bodyPost_ret (results_tmp2 rfl _ _ _) rfl ⟨.slice (some ⟨g, 0, none⟩) cur.length cap, cur, by rw [hB'.out]; rfl, hown.out.base' (Nat.le_succ _), fun _ => hdone.out, fun h => (by rw [hB'.out] at h; cases h), hx.out.bel⟩
end Go.Proofs.Ytioceechdombjaa
