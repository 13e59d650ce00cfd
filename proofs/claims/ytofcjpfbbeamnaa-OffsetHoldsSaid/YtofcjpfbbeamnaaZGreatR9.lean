/- gantryref09.Great: bounds alone. -/
import Derived.Test.YtofcjpfbbeamnaaZValWRIs
namespace Go.Proofs.Ytofcjpfbbeamnaa
open Go.RowKit
set_option maxRecDepth 100000

def GreatWP (W : Wd) (e : Ending) : Prop := ∃ b, e = .returned (.bool b) ∧ (b = false → FewW W)
set_option maxHeartbeats 1000000 in
theorem R9Great_any (zv wv : Value) (W : Wd) (w : World) (hW : WdAt w zv wv W) :
    Calls Try.prog 25 #[.agg #[zv, wv]] w fun e w' => GreatWP W e ∧ Below w.heap.size w w' := by
  have hW' := Lib.hid hW
  obtain ⟨ZA, zc, rfl, hzn, -, -⟩ := hW.1
  obtain ⟨WA, wq, rfl, ⟨hwn, hwc⟩, -⟩ := hW.2
  have hx := Lib.hid ((Bx.nil w).row #[.slice ZA W.nz zc, .slice WA W.nf wq] 52)
  clear hW
  obtain ⟨⟨k0, -⟩, ⟨k1, -⟩, -⟩ := hx.out.cells
  go_enter Try.func25, Try.ntmps25
  by_cases h1 : 10 < W.nz
  · have d1 : decide ((10 : Int) < (W.nz : Int)) = true := decide_eq_true (by omega)
    clear h1
    go_wp2_with fail
    go_ret
    exact ⟨⟨true, rfl, fun h => by cases h⟩, hx.out.bel⟩
  have d1 : decide ((10 : Int) < (W.nz : Int)) = false := decide_eq_false (by omega)
  by_cases h2 : 20 < W.nf
  · have d2 : decide ((20 : Int) < (W.nf : Int)) = true := decide_eq_true (by omega)
    clear h1 h2
    go_wp2_with fail
    go_ret
    exact ⟨⟨true, rfl, fun h => by cases h⟩, hx.out.bel⟩
  have d2 : decide ((20 : Int) < (W.nf : Int)) = false := decide_eq_false (by omega)
  have hnz : Hid (W.nz ≤ 10) := by unfold Hid; omega
  have hnf : W.nf ≤ 20 := by omega
  clear h1 h2
  go_wp2_with fail
  clear d1 d2
  go_loopw [3] (fun i wr => ∃ j : Nat, j ≤ W.nf ∧ i = .int .i64 j ∧ Hid (∀ i, i < j → (W.F i).nr ≤ 420) ∧ Hid (Bx w (rowK w.heap.size [.slice ZA W.nz zc, .slice WA W.nf wq] 0 ++ []) wr)) (fun i _ => W.nf - (intOf i).toNat)
  case atStart => exact ⟨0, Nat.zero_le _, rfl, fun i hi => absurd hi (Nat.not_lt_zero i), hx.out⟩
  case round =>
    clear hx k0 k1
    obtain ⟨j, hj, rfl, hall, hx⟩ := hrel
    obtain ⟨⟨k0, -⟩, ⟨k1, -⟩, -⟩ := hx.out.cells
    by_cases hlt : j < W.nf
    · have i1 : decide ((j : Int) < (W.nf : Int)) = true := decide_eq_true (by omega)
      have hji : (j : Int) < (W.nf : Int) := by omega
      have hj0 : (0 : Int) ≤ (j : Int) := by omega
      obtain ⟨wb, wo, wcc, ewv, hwb, v0, v1, ⟨y0, y1⟩, hfvi⟩ := RowAt.cells_at hW'.out.2 hlt
      injection ewv with ewa _ ewc
      subst ewa; subst ewc
      obtain ⟨rA, rc, rfl, ⟨hrn, hrc⟩, -⟩ := hfvi.1
      have y := (hx.out.bel.cell (p := ⟨wb, wo + j * 2, none⟩) hwb).trans y0
      clear y0 y1 hfvi
      by_cases hgt : 420 < (W.F j).nr
      · have d3 : decide ((420 : Int) < ((W.F j).nr : Int)) = true := decide_eq_true (by omega)
        clear hgt
        go_wp2_with fail
        go_ret
        exact ⟨⟨true, rfl, fun h => by cases h⟩, hx.out.bel⟩
      · have d3 : decide ((420 : Int) < ((W.F j).nr : Int)) = false := decide_eq_false (by omega)
        have hnx : Hid (∀ i, i < j + 1 → (W.F i).nr ≤ 420) := fun i hi => by
          by_cases e : i = j
          · subst e; omega
          · exact hall.out i (by omega)
        clear hgt
        go_wp2_with fail
        go_roundw
        case rel => exact ⟨j + 1, by omega, by go_num, hnx, hx.out⟩
        case measure => simp [intOf]; omega
    · have i1 : decide ((j : Int) < (W.nf : Int)) = false := decide_eq_false (by omega)
      obtain rfl : j = W.nf := by omega
      go_wp2_with fail
      go_ret
      exact ⟨⟨false, rfl, fun _ => ⟨by have := hnz.out; omega, by omega, fun i hi => by have := hall.out i hi; omega⟩⟩, hx.out.bel⟩
end Go.Proofs.Ytofcjpfbbeamnaa
