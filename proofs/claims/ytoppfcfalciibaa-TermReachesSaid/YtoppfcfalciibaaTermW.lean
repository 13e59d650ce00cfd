/- gantrylaw05.wakes. -/
import Derived.Test.YtoppfcfalciibaaTermF
import Derived.Test.YtoppfcfalciibaaRCheck
namespace Go.Proofs.Ytoppfcfalciibaa
open Go.RowKit Go.Maps

theorem num5_R : NdR num5 := ⟨⟨by decide, by decide⟩, ⟨by decide, by decide⟩, ⟨by decide, by decide⟩, ⟨by decide, by decide⟩, ⟨by decide, by decide⟩, ⟨by decide, by decide⟩, ⟨by decide, by decide⟩, ⟨by decide, by decide⟩⟩
theorem num6_R : NdR num6 := ⟨⟨by decide, by decide⟩, ⟨by decide, by decide⟩, ⟨by decide, by decide⟩, ⟨by decide, by decide⟩, ⟨by decide, by decide⟩, ⟨by decide, by decide⟩, ⟨by decide, by decide⟩, ⟨by decide, by decide⟩⟩
set_option maxHeartbeats 1000000 in
set_option maxRecDepth 100000 in
theorem wakes05_any (w : World) : Calls Try.prog 15 #[] w fun e w' => e = .returned (.bool true) ∧ Below w.heap.size w w' := by
  go_enter Try.func15, Try.ntmps15
  go_wp2_with fail
  refine (New_any w).mono ?_
  rintro x w1 ⟨v1, rfl, hN1, hb1⟩
  go_wp2_with fail
  refine (Put_any v1 2 newN num5 9 w1 hN1 (by omega) num5_R ⟨by decide, by decide⟩).mono ?_
  rintro x w2 ⟨v2, m2, M2, at2, er2, rfl, hR2, hN2, hb2⟩
  obtain ⟨rfl, rfl, rfl, rfl⟩ := hR2.new check_new (stands_num (by decide) _) (new_ne 5 (by decide)) (by decide)
  have hs2 := Lib.hid hN2
  obtain ⟨A2, c2, rfl, _, _, _⟩ := hN2
  clear hR2
  go_wp2_with fail
  refine (Put_any (.slice A2 3 c2) 3 (extN newN 2 num5) num5 3 _ (hs2.out.alloc _) (by omega) num5_R ⟨by decide, by decide⟩).mono ?_
  rintro x w3 ⟨v3, m3, M3, at3, er3, rfl, hR3, hN3, hb3⟩
  obtain ⟨rfl, rfl, rfl, rfl⟩ := hR3.old check_five (stands_num (by decide) _) 2 (by omega) (extN_at _ _ _)
  have hs3 := Lib.hid hN3
  obtain ⟨A3, c3, rfl, _, _, _⟩ := hN3
  clear hR3 hs2
  have hz3 := hb3.size
  simp at hz3
  go_wp2_with fail
  refine (Put_any (.slice A3 3 c3) 3 (extN newN 2 num5) num6 3 _ (hs3.out.alloc _) (by omega) num6_R ⟨by decide, by decide⟩).mono ?_
  rintro x w4 ⟨v4, m4, M4, at4, er4, rfl, hR4, hN4, hb4⟩
  obtain ⟨rfl, rfl, rfl⟩ := hR4.full check_five (stands_num (by decide) _) five_ne (by decide)
  obtain ⟨A4, c4, rfl, _, _, _⟩ := hN4
  clear hR4
  have hc4 : w4.cell? ⟨w3.heap.size, 0, none⟩ = some (.slice A3 3 c3) := by
    rw [hb4.cell (p := ⟨w3.heap.size, 0, none⟩) (by simp)]; simp
  have hz4 : w3.heap.size < w4.heap.size := by have := hb4.size; simp at this; omega
  have hs4 := Lib.hid (((hs3.out.alloc (.cells #[.slice A3 3 c3] 24)).below hb4).alloc (.cells #[.slice A4 0 c4] 24))
  have hbw : Below w.heap.size w w4 := by
    refine hb1.trans ((hb2.trans (((((Below.refl _ _).alloc (Nat.le_refl _) (.cells #[.slice A2 3 c2] 24)).trans (hb3.mono (by simp))).trans ((((Below.refl _ _).alloc (Nat.le_refl _) (.cells #[.slice A3 3 c3] 24)).trans (hb4.mono (by simp))).mono (by omega))).mono hb2.size)).mono hb1.size)
  have hy := Lib.hid (check_yes check_five)
  go_wp2_with fail
  refine (Check_any _ 3 (extN newN 2 num5) _ hs4.out (by omega)).mono ?_
  rintro x w5 ⟨rfl, hb5⟩
  rw [hy.out]
  go_wp2
  go_ret
  exact ⟨rfl, (hbw.alloc (by have := hbw.size; omega) _).trans (hb5.mono (by simp; have := hbw.size; omega))⟩
end Go.Proofs.Ytoppfcfalciibaa
