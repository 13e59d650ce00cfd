/- gantrylaw04.wakes. -/
import Derived.Test.YthkbekfdjfmmbaaSigG
namespace Go.Proofs.Ythkbekfdjfmmbaa
open Go.RowKit
set_option maxRecDepth 100000

def sS : ByteArray := ⟨#[83]⟩
def sAnd : ByteArray := ⟨#[97, 110, 100]⟩
theorem sS_R : StrR sS := by unfold StrR; decide
theorem sAnd_R : StrR sAnd := by unfold StrR; decide
theorem few0 : FewG sg0 := ⟨by decide, by decide, by decide⟩
theorem few1 : FewG (sg0.addS sS) := ⟨by decide, by decide, by decide⟩
theorem wk1 : addI sg0 sS true true (sg0.ns : Nat) 4 = 0 := by kernel_rfl
theorem wk2 : sortI (sg0.addS sS) sS = 2 := by kernel_rfl
theorem wk3 : freeI (sg0.addS sS) sAnd false = 32 := by kernel_rfl
theorem wk4 : freeI (sg0.addS sS) sS false = 0 := by kernel_rfl
set_option maxHeartbeats 1000000 in
theorem wakes04_any (w : World) : Calls Try.prog 11 #[] w fun e w' => e = .returned (.bool true) ∧ Below w.heap.size w w' := by
  have hA := Lib.hid (AddSort_yes _ _ _ sg0 sS w (SgAt.nil w) few0 sS_R wk1)
  go_enter Try.func11, Try.ntmps11
  go_wp2_with fail
  refine hA.out.mono ?_
  rintro e w1 ⟨v', rfl, hG1, hb1⟩
  have hv : ∃ A n c, v' = .slice A n c := by
    obtain ⟨A, c, rfl, _, _⟩ := hG1.1
    exact ⟨_, _, _, rfl⟩
  obtain ⟨VA, vn, vc, rfl⟩ := hv
  have hx1 := Lib.hid (((Bx.nil w).step hb1).row #[.slice VA vn vc, .slice none 0 0, .slice none 0 0] 26)
  have hG1' := Lib.hid (hG1.alloc (.cells #[.slice VA vn vc, .slice none 0 0, .slice none 0 0] 26))
  have hS := Lib.hid (Sort_any _ _ _ _ sS _ hG1'.out few1)
  rw [wk2] at hS
  unfold findV at hS
  clear hb1 hG1
  go_wp2_with fail
  refine hS.out.mono ?_
  rintro e w2 ⟨rfl, hb2⟩
  have hx2 := Lib.hid (hx1.out.step hb2)
  have hG2 := Lib.hid (hG1'.out.below hb2)
  have hF1 := Lib.hid (Free_any _ _ _ _ sAnd false _ hG2.out few1 sAnd_R)
  rw [wk3] at hF1
  obtain ⟨⟨k0, kz⟩, ⟨k1, _⟩, ⟨k2, _⟩, _⟩ := hx2.out.cells
  clear hb2 hx1
  go_wp2_with fail
  refine hF1.out.mono ?_
  rintro e w3 ⟨rfl, hb3⟩
  have hx3 := Lib.hid (hx2.out.step hb3)
  have hG3 := Lib.hid (hG2.out.below hb3)
  have hF2 := Lib.hid (Free_any _ _ _ _ sS false _ hG3.out few1 sS_R)
  rw [wk4] at hF2
  obtain ⟨⟨k0, kz⟩, ⟨k1, _⟩, ⟨k2, _⟩, _⟩ := hx3.out.cells
  clear hb3 hx2
  go_wp2_with fail
  refine hF2.out.mono ?_
  rintro e w4 ⟨rfl, hb4⟩
  have hx4 := Lib.hid (hx3.out.step hb4)
  clear hb4 hx3
  go_wp2_with fail
  go_ret
  exact ⟨rfl, hx4.out.bel⟩
end Go.Proofs.Ythkbekfdjfmmbaa
