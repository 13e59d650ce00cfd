/- sig.within, Cut: where what is cut may be. -/
import Derived.Test.YthkbekfdjfmmbaaSigP
namespace Go.Proofs.Ythkbekfdjfmmbaa
open Go.RowKit
set_option maxRecDepth 100000

/-- The first so many of each. -/
def Sg.cut (g : Sg) (a b c : Nat) : Sg := { g with ns := a, nf := b, nm := c }
def bx3 (b : Nat) (s f m : Value) : List (Nat × Nat × Value) := [(b, 0, s), (b, 1, f), (b, 2, m)]
theorem Bx.three {w x : World} {K : List (Nat × Nat × Value)} (h : Bx w K x) (s f m : Value) (t : TypeId) : Bx w (bx3 x.heap.size s f m ++ K) (x.alloc (.cells #[s, f, m] t)) := (h.row #[s, f, m] t).cast (by simp [rowK, bx3])
theorem bx3_cells {w x : World} {b : Nat} {s f m : Value} (h : Bx w (bx3 b s f m) x) : x.cell? ⟨b, 0, none⟩ = some s ∧ x.cell? ⟨b, 1, none⟩ = some f ∧ x.cell? ⟨b, 2, none⟩ = some m := ⟨h.cells.1.1, h.cells.2.1.1, h.cells.2.2.1.1⟩
theorem within_yes (a b : Nat) (w : World) (h : a ≤ b) : Calls Try.prog 43 #[.int .i64 a, .int .i64 b] w fun e w' => e = .returned (.bool true) ∧ w = w' := by
  have d0 : decide ((0 : Int) ≤ (a : Int)) = true := decide_eq_true (by omega)
  have d1 : decide ((a : Int) ≤ (b : Int)) = true := decide_eq_true (by omega)
  go_enter Try.func43, Try.ntmps43
  go_wp2_with fail
  go_ret
  exact ⟨rfl, rfl⟩
set_option maxHeartbeats 4000000 in
theorem Cut_yes (s f m : Value) (g : Sg) (a b c : Nat) (w : World) (hG : SgAt w s f m g) (hf : FewG g) (hc : CheckG g) (ha : a ≤ g.ns) (hb : b ≤ g.nf) (hcm : c ≤ g.nm) (hcut : CheckG (g.cut a b c)) :
    Calls Try.prog 17 #[.agg #[s, f, m], .int .i64 a, .int .i64 b, .int .i64 c] w fun e w' => ∃ A FA MA, e = .returned (.tuple #[.agg #[.slice A a a, .slice FA b b, .slice MA c c], .int .i64 0]) ∧ SgAt w' (.slice A a a) (.slice FA b b) (.slice MA c c) (g.cut a b c) ∧ Below w.heap.size w w' := by
  have hG' := Lib.hid hG
  obtain ⟨n1, n2, n3⟩ := hf
  obtain ⟨A, ca, rfl, ⟨h1, h2⟩, -⟩ := hG.1
  obtain ⟨FA, fc, rfl, ⟨h3, h4⟩, -⟩ := hG.2.1
  obtain ⟨MA, mc, rfl, ⟨h5, h6⟩, -⟩ := hG.2.2
  have hx0 := Lib.hid ((gbox_bx w (.slice A g.ns ca) (.slice FA g.nf fc) (.slice MA g.nm mc)).skip (.cells #[.slice none 0 0, .slice none 0 0, .slice none 0 0] 26))
  have hr0 := Free3.new (w.alloc (.cells #[.slice A g.ns ca, .slice FA g.nf fc, .slice MA g.nm mc] 26)) (.slice none 0 0) (.slice none 0 0) (.slice none 0 0) 26
  rw [World.size_alloc] at hr0
  have hr0' := Lib.hid hr0
  have hcg := (checkG_iff g).2 hc
  have hch0 := SCheck_any _ _ _ g _ (hG.below hx0.out.bel) ⟨n1, n2, n3⟩
  rw [hcg] at hch0
  unfold chV at hch0
  have hch := Lib.hid hch0
  have w1 := Lib.hid fun x => within_yes a g.ns x ha
  have w2 := Lib.hid fun x => within_yes b g.nf x hb
  have w3 := Lib.hid fun x => within_yes c g.nm x hcm
  have hcut' := Lib.hid hcut
  have s1 : (a : Int) ≤ (ca : Int) := by omega
  have s2 : (b : Int) ≤ (fc : Int) := by omega
  have s3 : (c : Int) ≤ (mc : Int) := by omega
  clear hch0 hr0 hcg hc hG hcut
  go_enter Try.func17, Try.ntmps17
  go_wp2_with fail
  refine hch.out.mono ?_
  rintro e w4 ⟨rfl, hb4⟩
  have hx4 := Lib.hid (hx0.out.step hb4)
  have hr4 := Lib.hid (hr0'.out.step hb4)
  obtain ⟨k1, k2, k3⟩ := gbox_cells (w := w) (sv := .slice A g.ns ca) (fv := .slice FA g.nf fc) (mv := .slice MA g.nm mc) hx4.out
  clear hb4 hx0 hr0'
  go_wp2_with (first | (go_at_call 43; (with_reducible refine (w1.out _).mono ?_); rintro e w' ⟨rfl, rfl⟩) | (go_at_call 43; (with_reducible refine (w2.out _).mono ?_); rintro e w' ⟨rfl, rfl⟩) | (go_at_call 43; (with_reducible refine (w3.out _).mono ?_); rintro e w' ⟨rfl, rfl⟩))
  have hKp : ∀ {x : World}, Below w4.heap.size w4 x → (x.cell? ⟨w.heap.size, 0, none⟩ = some (.slice A g.ns ca) ∧ x.cell? ⟨w.heap.size, 1, none⟩ = some (.slice FA g.nf fc) ∧ x.cell? ⟨w.heap.size, 2, none⟩ = some (.slice MA g.nm mc)) := fun hb => gbox_cells (w := w) (sv := .slice A g.ns ca) (fv := .slice FA g.nf fc) (mv := .slice MA g.nm mc) (hx4.out.step hb)
  clear k1 k2 k3
  go_region_held3 (fun x => x.cell? ⟨w.heap.size, 0, none⟩ = some (.slice A g.ns ca) ∧ x.cell? ⟨w.heap.size, 1, none⟩ = some (.slice FA g.nf fc) ∧ x.cell? ⟨w.heap.size, 2, none⟩ = some (.slice MA g.nm mc)) (first | exact hKp (Below.refl _ _).drew | exact hKp ((Below.refl _ _).alloc (Nat.le_refl _) _).drew | fail) (fail)
  have hb5 : Below w4.heap.size w4 (w4.alloc (.cells #[.slice A a a, .slice FA b b, .slice MA c c] 26)).drew := ((Below.refl _ _).alloc (Nat.le_refl _) _).drew
  have hG4 := hG'.out.below hx4.out.bel
  have hG5 : SgAt (w4.alloc (.cells #[.slice A a a, .slice FA b b, .slice MA c c] 26)).drew (.slice A a a) (.slice FA b b) (.slice MA c c) (g.cut a b c) :=
    ⟨(RowAt.pre (hG4.1.below hb5) ha a ⟨Nat.le_refl _, by omega⟩), (RowAt.pre (hG4.2.1.below hb5) hb b ⟨Nat.le_refl _, by omega⟩), (RowAt.pre (hG4.2.2.below hb5) hcm c ⟨Nat.le_refl _, by omega⟩)⟩
  have hch5 := SCheck_any _ _ _ (g.cut a b c) _ hG5 ⟨by show a ≤ 1000; omega, by show b ≤ 1000; omega, by show c ≤ 1000; omega⟩
  rw [(checkG_iff _).2 hcut'.out] at hch5
  have hch5' := Lib.hid hch5
  have hx5 := Lib.hid (((hx4.out.step (Below.refl _ _)).three (.slice A a a) (.slice FA b b) (.slice MA c c) 26).drew)
  have hr5 := Lib.hid (hr4.out.step hb5)
  have hG5' := Lib.hid hG5
  clear hKp hch5 hG5 hb5 hG4 hch hx4 hr4
  go_wp2_with fail
  refine hch5'.out.mono ?_
  rintro e w6 ⟨rfl, hb6⟩
  have hx6 := Lib.hid (hx5.out.step hb6)
  have hr6 := Lib.hid (hr5.out.step hb6)
  have hG6 := Lib.hid (hG5'.out.below hb6)
  obtain ⟨k1, k2, k3⟩ := bx3_cells hx6.out.left
  obtain ⟨⟨u0, z0⟩, ⟨u1, z1⟩, ⟨u2, z2⟩, f0, f1, f2, hz⟩ := hr6.out
  clear hb6 hx5 hr5 hG5'
  unfold chV
  go_wp2_with fail
  have hbf := Free3.bel (b := w.heap.size + 1) hx6.out.bel (by omega) (.slice A a a) (.slice FA b b) (.slice MA c c)
  refine bodyPost_ret (results_sig2 rfl _ _ (w.heap.size + 1) _ _ _ rfl (hr6.out.set _ _ _)) rfl ⟨A, FA, MA, rfl, SgAt.below (w := w) ?_ hbf, hbf⟩
  exact ⟨RowAt.pre hG'.out.1 ha a ⟨Nat.le_refl _, by omega⟩, RowAt.pre hG'.out.2.1 hb b ⟨Nat.le_refl _, by omega⟩, RowAt.pre hG'.out.2.2 hcm c ⟨Nat.le_refl _, by omega⟩⟩
end Go.Proofs.Ythkbekfdjfmmbaa
