/- atoms.Make, atoms.Lit. -/
import Derived.Test.YtoppfcfalciibaaEufB
namespace Go.Proofs.Ytoppfcfalciibaa
open Go.RowKit Go.Maps
set_option maxRecDepth 100000

def litI (j : Nat) (r : Bool) : Int := 2 * (j : Int) + (if r then 1 else 0)
theorem or_one (j : Nat) (h : j ≤ 1000000) : bits .or .i64 ((j : Int) * 2) 1 = (j : Int) * 2 + 1 :=
  bits_join .i64 62 (by decide) (fun n h0 h1 => by rw [IntKind.wrap_i64]; omega) 1 _ _ (by omega) (by omega) (by omega) (by omega) (by omega) (by omega)

theorem Make_any (j : Nat) (r : Bool) (w : World) (h : j ≤ 1000000) : Calls Try.prog 40 #[.int .i64 j, .bool r] w fun e w' => e = .returned (.int .i64 (litI j r)) ∧ w = w' := by
  cases r
  · go_enter Try.func40, Try.ntmps40
    go_wp2
    go_ret
    exact ⟨ret_int (show (j : Int) * 2 = 2 * (j : Int) + 0 by omega), rfl⟩
  · have ho := or_one j h
    have hR := Lib.hid ho
    clear ho
    go_enter Try.func40, Try.ntmps40
    go_wp2
    go_ret
    exact ⟨ret_int (show bits .or .i64 ((j : Int) * 2) 1 = 2 * (j : Int) + 1 by rw [hR.out]; omega), rfl⟩

/-- What Lit says of a node's place. -/
def LitP (n : Nat) (N : Nat → Nd) (x a e : Int) : Prop :=
  ((¬ CheckP n N ∨ x < 0 ∨ (n : Int) ≤ x) ∧ a = 0 ∧ e = 2) ∨
  (CheckP n N ∧ ∃ i j r, x = (i : Nat) ∧ i < n ∧ BareR N i false j r ∧
    ((((N i).sort ≠ 0 ∨ (N j).sort ≠ 0) ∧ a = 0 ∧ e = 33) ∨ ((N i).sort = 0 ∧ (N j).sort = 0 ∧ a = litI j r ∧ e = 0)))
def LitPost (n : Nat) (N : Nat → Nd) (x : Int) (w : World) (y : Ending) (w' : World) : Prop :=
  ∃ a e, y = .returned (.tuple #[.int .i64 a, .int .i64 e]) ∧ LitP n N x a e ∧ Below w.heap.size w w'

set_option maxHeartbeats 4000000 in
theorem Lit_any (v : Value) (n : Nat) (N : Nat → Nd) (x : Int) (w : World) (hv : NdsAt w v n N) (hn : n ≤ 1000000) (hx : R64 x) :
    Calls Try.prog 39 #[.agg #[v], .int .i64 x] w (LitPost n N x w) := by
  have hv' := Lib.hid hv
  have hr := Lib.hid hv.ranges
  obtain ⟨A, c, rfl, hcap, _, hcs⟩ := hv
  obtain ⟨hc0, hc1⟩ := hcap
  have hx0 := (Bx.nil w).one (.slice A n c) 24
  obtain ⟨x0, x1⟩ := hx
  by_cases hch : CheckP n N
  · have hy := Lib.hid (check_yes hch)
    have hch' := Lib.hid hch
    by_cases hlo : x < 0
    · have hR : Hid (LitP n N x 0 2) := .inl ⟨.inr (.inl hlo), rfl, rfl⟩
      have d0 : decide (x < 0) = true := by simpa using hlo
      clear hch hcs hlo
      go_enter Try.func39, Try.ntmps39
      go_wp2_with fail
      refine (Check_any _ n N _ (hv'.out.below hx0.bel) hn).mono ?_
      rintro y w2 ⟨rfl, hb2⟩
      rw [hy.out]
      have hx2 := hx0.step hb2
      clear hb2 hx0
      go_wp2
      go_ret2
      exact ⟨0, 2, rfl, hR.out, hx2.bel⟩
    by_cases hhi : (n : Int) ≤ x
    · have hR : Hid (LitP n N x 0 2) := .inl ⟨.inr (.inr hhi), rfl, rfl⟩
      have d0 : decide (x < 0) = false := by simpa using hlo
      clear hch hcs hlo
      go_enter Try.func39, Try.ntmps39
      go_wp2_with fail
      refine (Check_any _ n N _ (hv'.out.below hx0.bel) hn).mono ?_
      rintro y w2 ⟨rfl, hb2⟩
      rw [hy.out]
      have hx2 := hx0.step hb2
      obtain ⟨⟨q0, z0⟩, -⟩ := hx2.cells
      clear hb2 hx0
      go_wp2
      go_ret2
      exact ⟨0, 2, rfl, hR.out, hx2.bel⟩
    obtain ⟨i, rfl⟩ := Int.eq_ofNat_of_zero_le (Int.not_lt.1 hlo)
    have hin : i < n := by omega
    obtain ⟨j, r, hbr⟩ := bare_total hch i hin false
    have hjn := (hbr.lt hch hin).1
    have hbr' := Lib.hid hbr
    obtain ⟨b, o, rfl, hbl, hcs⟩ := hcs (by omega)
    obtain ⟨_, _, _, _, _, s5, _, _⟩ := hcs i hin
    obtain ⟨_, _, _, _, _, t5, _, _⟩ := hcs j (by omega)
    have R1 := (hr.out i hin).sort
    have R2 := (hr.out j (by omega)).sort
    have hS0 := Lib.hid s5
    have hT0 := Lib.hid t5
    have hG : Hid (∀ a e, (((N i).sort ≠ 0 ∨ (N j).sort ≠ 0) ∧ a = 0 ∧ e = 33) ∨ ((N i).sort = 0 ∧ (N j).sort = 0 ∧ a = litI j r ∧ e = 0) → LitP n N i a e) := fun a e h => .inr ⟨hch'.out, i, j, r, rfl, hin, hbr'.out, h⟩
    have hi64 : (i : Int) < (n : Int) := by omega
    have hj64 : (j : Int) < (n : Int) := by omega
    clear hch hcs hlo hbr s5 t5
    go_enter Try.func39, Try.ntmps39
    go_wp2_with fail
    refine (Check_any _ n N _ (hv'.out.below hx0.bel) hn).mono ?_
    rintro y w2 ⟨rfl, hb2⟩
    rw [hy.out]
    have hx2 := hx0.step hb2
    obtain ⟨⟨q0, z0⟩, -⟩ := hx2.cells
    clear hb2 hx0
    go_wp2_with fail
    refine (Bare_any w.heap.size _ n c i N w2 q0 (hv'.out.below hx2.bel) hn hch'.out hin j r hbr'.out).mono ?_
    rintro y w3 ⟨rfl, d3, rfl⟩
    have hx3 := hx2.drewN d3
    have c1 := (hx2.bel.cell (p := ⟨b, o + i * 8 + 5, none⟩) hbl).trans hS0.out
    have c2 := (hx2.bel.cell (p := ⟨b, o + j * 8 + 5, none⟩) hbl).trans hT0.out
    clear hx2
    by_cases e1 : (N i).sort = 0
    · by_cases e2 : (N j).sort = 0
      · have hF := Lib.hid (hG.out _ _ (.inr ⟨e1, e2, rfl, rfl⟩))
        rw [e1] at c1
        rw [e2] at c2
        clear hG e1 e2
        go_wp2_with fail
        refine (Make_any j r _ (by omega)).mono ?_
        rintro y w4 ⟨rfl, rfl⟩
        go_wp2
        go_ret2
        exact ⟨_, 0, rfl, hF.out, hx3.bel⟩
      · have hF := Lib.hid (hG.out _ _ (.inl ⟨.inr e2, rfl, rfl⟩))
        have d2 : ((N j).sort != 0) = true := by simpa using e2
        rw [e1] at c1
        clear hG e1
        go_wp2
        go_ret2
        exact ⟨0, 33, rfl, hF.out, hx3.bel⟩
    · have hF := Lib.hid (hG.out _ _ (.inl ⟨.inl e1, rfl, rfl⟩))
      have d1 : ((N i).sort != 0) = true := by simpa using e1
      clear hG
      go_wp2
      go_ret2
      exact ⟨0, 33, rfl, hF.out, hx3.bel⟩
  · have hy := Lib.hid (check_not hch)
    have hR : Hid (LitP n N x 0 2) := .inl ⟨.inl hch, rfl, rfl⟩
    clear hch hcs
    go_enter Try.func39, Try.ntmps39
    go_wp2_with fail
    refine (Check_any _ n N _ (hv'.out.below hx0.bel) hn).mono ?_
    rintro y w2 ⟨rfl, hb2⟩
    rw [hy.out]
    have hx2 := hx0.step hb2
    go_wp2
    go_ret2
    exact ⟨0, 2, rfl, hR.out, hx2.bel⟩
end Go.Proofs.Ytoppfcfalciibaa
