/- gantryref05.Great. -/
import Derived.Test.YtofcjpfbbeamnaaZTermCTermDa
namespace Go.Proofs.Ytofcjpfbbeamnaa
open Go.RowKit

theorem Great5_any (v : Value) (n : Nat) (N : Nat → Nd) (w : World) (hv : NdsAt w v n N) :
    Calls Try.prog 13 #[.agg #[v]] w fun e w' => e = .returned (.bool (decide (300 < n))) ∧ Below w.heap.size w w' := by
  obtain ⟨A, c, rfl, _, _, _⟩ := hv
  go_enter Try.func13, Try.ntmps13
  go_wp2
  go_ret
  exact ⟨ret_bool (by rw [Bool.eq_iff_iff]; simp; omega), (Below.refl _ _).alloc (Nat.le_refl _) _⟩
end Go.Proofs.Ytofcjpfbbeamnaa

namespace Go.Proofs.Ytofcjpfbbeamnaa
open Go.RowKit Go.Maps


theorem Same_any (v u : Value) (n m : Nat) (N M : Nat → Nd) (w : World) (hv : NdsAt w v n N) (hu : NdsAt w u m M) :
    Calls Try.prog 19 #[.agg #[v], .agg #[u]] w fun e w' => e = .returned (.bool (sameN n N m M)) ∧ Below w.heap.size w w' := by
  have hv' := Lib.hid hv
  have hu' := Lib.hid hu
  obtain ⟨A, c, rfl, _, _, _⟩ := hv
  obtain ⟨A2, c2, rfl, _, _, _⟩ := hu
  go_enter Try.func19, Try.ntmps19
  go_wp2_with fail
  refine (Equal_any _ _ n m N M _ ((hv'.out.alloc _).alloc _) ((hu'.out.alloc _).alloc _)).mono ?_
  rintro e w3 ⟨rfl, d3, rfl⟩
  go_wp2
  go_ret
  exact ⟨rfl, below_drewN (((Below.refl _ _).alloc (Nat.le_refl _) _).alloc (by simp) _) _⟩

def CutPost (n : Nat) (N : Nat → Nd) (k : Int) (w : World) (e : Ending) (w' : World) : Prop :=
  ∃ v' m er, e = .returned (.tuple #[.agg #[v'], .int .i64 er]) ∧ CutR n N k m er ∧ NdsAt w' v' m N ∧ Below w.heap.size w w'


set_option maxHeartbeats 1000000 in
theorem Cut_any (v : Value) (n : Nat) (N : Nat → Nd) (k : Int) (w : World) (hv : NdsAt w v n N) (hn : n ≤ 1000000) (hk : R64 k) :
    Calls Try.prog 18 #[.agg #[v], .int .i64 k] w (CutPost n N k w) := by
  have hv' := Lib.hid hv
  obtain ⟨A, c, rfl, hc, _, _⟩ := hv
  obtain ⟨hc0, hc1⟩ := hc
  obtain ⟨hk0, hk1⟩ := hk
  by_cases h : CheckP n N ∧ 2 ≤ k ∧ k ≤ n
  · obtain ⟨hch, h30, h31⟩ := h
    have hy := Lib.hid (check_yes hch)
    have h2 := hch.two
    obtain ⟨j, rfl⟩ := Int.eq_ofNat_of_zero_le (show 0 ≤ k by omega)
    have hR := Lib.hid (CutR.cut hch h30 h31 j rfl)
    have hd0 : decide ((j : Int) < 2) = false := by simp; omega
    have hd1 : decide (n < j) = false := by simp; omega
    clear hch
    go_enter Try.func18, Try.ntmps18
    go_wp2_with fail
    refine (Check_any _ n N _ (hv'.out.alloc2 _ _) hn).mono ?_
    rintro e w2 ⟨rfl, hb2⟩
    rw [hy.out]
    obtain ⟨b0, b1⟩ := bcell hb2
    have hz := hb2.size
    simp at hz
    go_wp2
    have hc2 : w2.cell? ⟨w.heap.size + 1, 0, none⟩ = some (.slice none 0 0) := by rw [b0 _ _ (by simp)]; simp
    have hbw := below_two hb2
    have hbs : Below w.heap.size w (w2.setCell ⟨w.heap.size + 1, 0, none⟩ (.slice A j j)) := hbw.setCell (by simp) _
    exact bodyPost_ret (results_tab1 rfl _ _ (w.heap.size + 1) (.slice A j j) rfl (World.cell?_setCell_same' _ _ _ (by rw [hc2]; rfl))) rfl
      ⟨_, j, 0, rfl, hR.out, (hv'.out.pre (by omega) j (by omega)).below hbs, hbs⟩
  · have hR := Lib.hid (CutR.arg h)
    by_cases hch : CheckP n N
    · have hy := Lib.hid (check_yes hch)
      have h3 : k < 2 ∨ n < k := by
        by_cases h3 : 2 ≤ k
        · by_cases h4 : k ≤ n
          · exact absurd ⟨hch, h3, h4⟩ h
          · exact .inr (by omega)
        · exact .inl (by omega)
      clear h hch
      by_cases h4 : k < 2
      · have hd0 : decide (k < 2) = true := by simp; omega
        clear h3 h4
        go_enter Try.func18, Try.ntmps18
        go_wp2_with fail
        refine (Check_any _ n N _ (hv'.out.alloc2 _ _) hn).mono ?_
        rintro e w2 ⟨rfl, hb2⟩
        rw [hy.out]
        obtain ⟨b0, b1⟩ := bcell hb2
        have hz := hb2.size
        simp at hz
        go_wp2
        have hc2 : w2.cell? ⟨w.heap.size + 1, 0, none⟩ = some (.slice none 0 0) := by rw [b0 _ _ (by simp)]; simp
        have hbw := below_two hb2
        have hbs : Below w.heap.size w (w2.setCell ⟨w.heap.size + 1, 0, none⟩ (.slice none 0 0)) := hbw.setCell (by simp) _
        exact bodyPost_ret (results_tab1 rfl _ _ (w.heap.size + 1) (.slice none 0 0) rfl (World.cell?_setCell_same' _ _ _ (by rw [hc2]; rfl))) rfl
          ⟨_, 0, 2, rfl, hR.out, NdsAt.nil _ _, hbs⟩
      · have hd0 : decide (k < 2) = false := by simp; omega
        have hd1 : decide ((n : Int) < k) = true := by simp; omega
        clear h3 h4
        go_enter Try.func18, Try.ntmps18
        go_wp2_with fail
        refine (Check_any _ n N _ (hv'.out.alloc2 _ _) hn).mono ?_
        rintro e w2 ⟨rfl, hb2⟩
        rw [hy.out]
        obtain ⟨b0, b1⟩ := bcell hb2
        have hz := hb2.size
        simp at hz
        go_wp2
        have hc2 : w2.cell? ⟨w.heap.size + 1, 0, none⟩ = some (.slice none 0 0) := by rw [b0 _ _ (by simp)]; simp
        have hbw := below_two hb2
        have hbs : Below w.heap.size w (w2.setCell ⟨w.heap.size + 1, 0, none⟩ (.slice none 0 0)) := hbw.setCell (by simp) _
        exact bodyPost_ret (results_tab1 rfl _ _ (w.heap.size + 1) (.slice none 0 0) rfl (World.cell?_setCell_same' _ _ _ (by rw [hc2]; rfl))) rfl
          ⟨_, 0, 2, rfl, hR.out, NdsAt.nil _ _, hbs⟩
    · have hy := Lib.hid (check_not hch)
      clear h hch
      go_enter Try.func18, Try.ntmps18
      go_wp2_with fail
      refine (Check_any _ n N _ (hv'.out.alloc2 _ _) hn).mono ?_
      rintro e w2 ⟨rfl, hb2⟩
      rw [hy.out]
      obtain ⟨b0, b1⟩ := bcell hb2
      have hz := hb2.size
      simp at hz
      go_wp2
      have hc2 : w2.cell? ⟨w.heap.size + 1, 0, none⟩ = some (.slice none 0 0) := by rw [b0 _ _ (by simp)]; simp
      have hbw := below_two hb2
      have hbs : Below w.heap.size w (w2.setCell ⟨w.heap.size + 1, 0, none⟩ (.slice none 0 0)) := hbw.setCell (by simp) _
      exact bodyPost_ret (results_tab1 rfl _ _ (w.heap.size + 1) (.slice none 0 0) rfl (World.cell?_setCell_same' _ _ _ (by rw [hc2]; rfl))) rfl
        ⟨_, 0, 2, rfl, hR.out, NdsAt.nil _ _, hbs⟩
end Go.Proofs.Ytofcjpfbbeamnaa
