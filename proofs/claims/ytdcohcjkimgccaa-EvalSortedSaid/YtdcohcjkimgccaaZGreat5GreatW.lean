/- gantryref05.Great. -/
import Derived.Test.YtdcohcjkimgccaaZTermDa
import Derived.Test.YtdcohcjkimgccaaZVMay
namespace Go.Proofs.Ytdcohcjkimgccaa
open Go.RowKit

theorem Great5_any (v : Value) (n : Nat) (N : Nat → Nd) (w : World) (hv : NdsAt w v n N) :
    Calls Try.prog 10 #[.agg #[v]] w fun e w' => e = .returned (.bool (decide (300 < n))) ∧ Below w.heap.size w w' := by
  obtain ⟨A, c, rfl, _, _, _⟩ := hv
  go_enter Try.func10, Try.ntmps10
  go_wp2
  go_ret
  exact ⟨ret_bool (by rw [Bool.eq_iff_iff]; simp; omega), (Below.refl _ _).alloc (Nat.le_refl _) _⟩
end Go.Proofs.Ytdcohcjkimgccaa

namespace Go.Proofs.Ytdcohcjkimgccaa
open Go.RowKit
set_option maxRecDepth 100000

def sumR (W : Wd) : Nat → Int
  | 0 => 0
  | k + 1 => sumR W k + min ((W.F k).nr : Int) 9000
def greatWB (W : Wd) : Bool := if 20 < W.nz then true else if 40 < W.nf then true else decide (300 < sumR W W.nf)
theorem sumR_range (W : Wd) (k : Nat) : 0 ≤ sumR W k ∧ sumR W k ≤ 9000 * k := by
  induction k with
  | zero => exact ⟨Int.le_refl _, Int.le_refl _⟩
  | succ k ih => unfold sumR; omega
theorem sumR_mono (W : Wd) {i k : Nat} (h : i < k) : min ((W.F i).nr : Int) 9000 ≤ sumR W k := by
  induction k with
  | zero => omega
  | succ k ih =>
    unfold sumR
    have := (sumR_range W k).1
    by_cases e : i = k
    · subst e; omega
    · have := ih (by omega); omega
structure SmallW (W : Wd) : Prop where
  nz : W.nz ≤ 20
  nf : W.nf ≤ 40
  nr : ∀ i, i < W.nf → (W.F i).nr ≤ 300
theorem great_small {W : Wd} (h : greatWB W = false) : SmallW W := by
  unfold greatWB at h
  by_cases h1 : 20 < W.nz
  · rw [if_pos h1] at h; cases h
  rw [if_neg h1] at h
  by_cases h2 : 40 < W.nf
  · rw [if_pos h2] at h; cases h
  rw [if_neg h2] at h
  have h3 := of_decide_eq_false h
  refine ⟨by omega, by omega, fun i hi => ?_⟩
  have := sumR_mono W hi
  omega
theorem SmallW.few {W : Wd} (h : SmallW W) : FewW W := ⟨by have := h.nz; omega, by have := h.nf; omega, fun i hi => by have := h.nr i hi; omega⟩
set_option maxHeartbeats 1000000 in
theorem greatW_any (zv wv : Value) (W : Wd) (w : World) (hW : WdAt w zv wv W) :
    Calls Try.prog 25 #[.agg #[zv, wv]] w fun e w' => e = .returned (.bool (greatWB W)) ∧ Below w.heap.size w w' := by
  have hW' := Lib.hid hW
  obtain ⟨ZA, zc, rfl, hzn, -, -⟩ := hW.1
  obtain ⟨WA, wq, rfl, ⟨hwn, hwc⟩, -⟩ := hW.2
  have hx := Lib.hid ((Bx.nil w).row #[.slice ZA W.nz zc, .slice WA W.nf wq] 51)
  have hR : Hid (greatWB W = if 20 < W.nz then true else if 40 < W.nf then true else decide (300 < sumR W W.nf)) := rfl
  have hsm := Lib.hid fun k => sumR_range W k
  have hss := Lib.hid fun k => show sumR W (k + 1) = sumR W k + min ((W.F k).nr : Int) 9000 from rfl
  clear hW
  obtain ⟨⟨k0, -⟩, ⟨k1, -⟩, -⟩ := hx.out.cells
  go_enter Try.func25, Try.ntmps25
  by_cases h1 : 20 < W.nz
  · have d1 : decide ((20 : Int) < (W.nz : Int)) = true := decide_eq_true (by omega)
    have hF : Hid (greatWB W = true) := by unfold Hid; rw [hR.out, if_pos h1]
    clear h1
    go_wp2_with fail
    go_ret
    exact ⟨by rw [hF.out]; rfl, hx.out.bel⟩
  have d1 : decide ((20 : Int) < (W.nz : Int)) = false := decide_eq_false (by omega)
  by_cases h2 : 40 < W.nf
  · have d2 : decide ((40 : Int) < (W.nf : Int)) = true := decide_eq_true (by omega)
    have hF : Hid (greatWB W = true) := by unfold Hid; rw [hR.out, if_neg h1, if_pos h2]
    clear h1 h2
    go_wp2_with fail
    go_ret
    exact ⟨by rw [hF.out]; rfl, hx.out.bel⟩
  have d2 : decide ((40 : Int) < (W.nf : Int)) = false := decide_eq_false (by omega)
  have hF : Hid (greatWB W = decide (300 < sumR W W.nf)) := by unfold Hid; rw [hR.out, if_neg h1, if_neg h2]
  have hnf : W.nf ≤ 40 := by omega
  clear h1 h2 hR
  go_wp2_with fail
  clear d1 d2
  go_loopw [3, 4] (fun s i wr => ∃ j : Nat, j ≤ W.nf ∧ i = .int .i64 j ∧ s = .int .i64 (sumR W j) ∧ Hid (Bx w (rowK w.heap.size [.slice ZA W.nz zc, .slice WA W.nf wq] 0 ++ []) wr)) (fun _ i _ => W.nf - (intOf i).toNat)
  case atStart => exact ⟨0, Nat.zero_le _, rfl, rfl, hx.out⟩
  case round =>
    clear hx k0 k1
    obtain ⟨j, hj, rfl, rfl, hx⟩ := hrel
    obtain ⟨⟨k0, -⟩, ⟨k1, -⟩, -⟩ := hx.out.cells
    by_cases hlt : j < W.nf
    · have i1 : decide ((j : Int) < (W.nf : Int)) = true := decide_eq_true (by omega)
      have hji : (j : Int) < (W.nf : Int) := by omega
      have hj0 : (0 : Int) ≤ (j : Int) := by omega
      obtain ⟨wb, wo, wcc, ewv, hwb, v0, v1, ⟨y0, y1⟩, hfvi⟩ := RowAt.cells_at hW'.out.2 hlt
      injection ewv with ewa _ ewc
      subst ewa; subst ewc
      obtain ⟨rA, rc, rfl, ⟨hrn, hrc⟩, -⟩ := hfvi.1
      have y := (hx.out.bel.cell (p := ⟨wb, wo + j * 2, none⟩) hwb).trans y0
      obtain ⟨s0, s1⟩ := hsm.out j
      have hsj := Lib.hid (hss.out j)
      clear y0 y1 hfvi
      generalize hq : sumR W (j + 1) = s' at *
      have hq' := Lib.hid hq
      clear hq
      generalize sumR W j = s at *
      by_cases hmin : ((W.F j).nr : Int) ≤ 9000
      · have e1 : min ((W.F j).nr : Int) 9000 = ((W.F j).nr : Int) := Int.min_eq_left hmin
        have hwr : IntKind.i64.wrap (s + ((W.F j).nr : Int)) = s' := by rw [IntKind.wrap_i64, hsj.out, e1]; omega
        go_wp2_with fail
        go_roundw
        case rel => exact ⟨j + 1, by omega, by go_num, by rw [hq'.out], hx.out⟩
        case measure => simp [intOf]; omega
      · have e1 : min ((W.F j).nr : Int) 9000 = 9000 := Int.min_eq_right (by omega)
        have hwr : IntKind.i64.wrap (s + 9000) = s' := by rw [IntKind.wrap_i64, hsj.out, e1]; omega
        go_wp2_with fail
        go_roundw
        case rel => exact ⟨j + 1, by omega, by go_num, by rw [hq'.out], hx.out⟩
        case measure => simp [intOf]; omega
    · have i1 : decide ((j : Int) < (W.nf : Int)) = false := decide_eq_false (by omega)
      obtain rfl : j = W.nf := by omega
      go_wp2_with fail
      go_ret
      exact ⟨by rw [hF.out]; rfl, hx.out.bel⟩
end Go.Proofs.Ytdcohcjkimgccaa
