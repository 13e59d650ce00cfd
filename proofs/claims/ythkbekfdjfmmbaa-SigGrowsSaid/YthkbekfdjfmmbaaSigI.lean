/- sig.AddMacro, refused. -/
import Derived.Test.YthkbekfdjfmmbaaSigH
namespace Go.Proofs.Ythkbekfdjfmmbaa
open Go.RowKit
set_option maxRecDepth 100000

/-- What AddMacro answers. -/
def amI (g : Sg) (m : Mc) : Int := addI g m.name false (macB g.ns m) g.nm 12
/-- The boxes of a signature and a macro. -/
def mgbox (w : World) (sv fv mv : Value) (v0 v1 v2 v3 v4 v5 : Value) : List (Nat × Nat × Value) :=
  [(w.heap.size + 1, 0, v0), (w.heap.size + 1, 1, v1), (w.heap.size + 1, 2, v2), (w.heap.size + 1, 3, v3), (w.heap.size + 1, 4, v4), (w.heap.size + 1, 5, v5),
   (w.heap.size, 0, sv), (w.heap.size, 1, fv), (w.heap.size, 2, mv)]
theorem mgbox_bx (w : World) (sv fv mv : Value) (v0 v1 v2 v3 v4 v5 : Value) : Bx w (mgbox w sv fv mv v0 v1 v2 v3 v4 v5) ((w.alloc (.cells #[sv, fv, mv] 26)).alloc (.cells #[v0, v1, v2, v3, v4, v5] 44)) :=
  (((Bx.nil w).row #[sv, fv, mv] 26).row #[v0, v1, v2, v3, v4, v5] 44).cast (by simp [rowK, mgbox])
def mgCells (w x : World) (sv fv mv : Value) (v0 v1 v2 v3 v4 v5 : Value) : Prop :=
  x.cell? ⟨w.heap.size + 1, 0, none⟩ = some v0 ∧ x.cell? ⟨w.heap.size + 1, 1, none⟩ = some v1 ∧ x.cell? ⟨w.heap.size + 1, 2, none⟩ = some v2 ∧ x.cell? ⟨w.heap.size + 1, 3, none⟩ = some v3 ∧
  x.cell? ⟨w.heap.size + 1, 4, none⟩ = some v4 ∧ x.cell? ⟨w.heap.size + 1, 5, none⟩ = some v5 ∧ x.cell? ⟨w.heap.size, 0, none⟩ = some sv ∧ x.cell? ⟨w.heap.size, 1, none⟩ = some fv ∧ x.cell? ⟨w.heap.size, 2, none⟩ = some mv
theorem mgbox_cells {w x : World} {sv fv mv : Value} {v0 v1 v2 v3 v4 v5 : Value} (h : Bx w (mgbox w sv fv mv v0 v1 v2 v3 v4 v5) x) : mgCells w x sv fv mv v0 v1 v2 v3 v4 v5 :=
  ⟨h.cells.1.1, h.cells.2.1.1, h.cells.2.2.1.1, h.cells.2.2.2.1.1, h.cells.2.2.2.2.1.1, h.cells.2.2.2.2.2.1.1, h.cells.2.2.2.2.2.2.1.1, h.cells.2.2.2.2.2.2.2.1.1, h.cells.2.2.2.2.2.2.2.2.1.1⟩
set_option maxHeartbeats 2000000 in
theorem AddMacro_no (sv fv mv : Value) (g : Sg) (m : Mc) (v0 v1 v2 v3 v4 v5 : Value) (w : World) (hG : SgAt w sv fv mv g) (hf : FewG g) (hM : McIs w m v0 v1 v2 v3 v4 v5) (h : amI g m ≠ 0) :
    Calls Try.prog 15 #[.agg #[sv, fv, mv], .agg #[v0, v1, v2, v3, v4, v5]] w fun e w' => e = .returned (.tuple #[sigZ, .int .i64 (amI g m)]) ∧ Below w.heap.size w w' := by
  have hM' := Lib.hid hM
  obtain ⟨rfl, hn, hP, rfl, -, hB⟩ := hM
  obtain ⟨PA, pc, rfl, -, -⟩ := hP
  obtain ⟨kk, tt, AA, nn, cc, rfl, rfl, rfl⟩ := hB.forms
  clear hB
  obtain ⟨W, hW⟩ : ∃ W, W = ((w.alloc (.cells #[sv, fv, mv] 26)).alloc (.cells #[.string m.name, .slice PA m.np pc, .int .i64 m.res, .int .i8 kk, .string tt, .slice AA nn cc] 44)).alloc (.cells #[.slice none 0 0, .slice none 0 0, .slice none 0 0] 26) := ⟨_, rfl⟩
  have hx0 : Bx w (mgbox w sv fv mv (.string m.name) (.slice PA m.np pc) (.int .i64 m.res) (.int .i8 kk) (.string tt) (.slice AA nn cc)) W := by rw [hW]; exact (mgbox_bx w sv fv mv (.string m.name) (.slice PA m.np pc) (.int .i64 m.res) (.int .i8 kk) (.string tt) (.slice AA nn cc)).skip _
  have hr0 : Free3 W (w.heap.size + 2) := by
    have := Free3.new ((w.alloc (.cells #[sv, fv, mv] 26)).alloc (.cells #[.string m.name, .slice PA m.np pc, .int .i64 m.res, .int .i8 kk, .string tt, .slice AA nn cc] 44)) (.slice none 0 0) (.slice none 0 0) (.slice none 0 0) 26
    rw [← hW] at this
    simpa using this
  have hns := hf.ns
  have hnf := hf.nm
  have hGW := hG.below hx0.bel
  obtain ⟨A, c, rfl, ⟨hc1, hc2⟩, -⟩ := hG.1
  obtain ⟨FA, fc, rfl, ⟨hf1, hf2⟩, -⟩ := hG.2.1
  obtain ⟨MA, mc, rfl, ⟨hm1, hm2⟩, -⟩ := hG.2.2
  have hfu := Lib.hid fun x (hb : Below W.heap.size W x) => macro_any A g.ns c (.slice FA g.nf fc) (.slice MA g.nm mc) m _ _ _ _ _ _ x (by omega) ((hM'.out.below hx0.bel).below hb)
  have hAd := Lib.hid fun x (hb : Below W.heap.size W x) => add_any _ _ _ g m.name false (macB g.ns m) g.nm 12 x (hGW.below hb) hf hn
  have d0 : (amI g m != 0) = true := by simpa using h
  have hri : Hid (amI g m = addI g m.name false (macB g.ns m) g.nm 12) := rfl
  rw [← hri.out] at hAd
  clear h
  generalize amI g m = r at *
  generalize macB g.ns m = fb at *
  have hb0 : Below W.heap.size W W.drew := (Below.refl _ _).drew
  have hKp : ∀ {x : World}, Below W.heap.size W x → (x.cell? ⟨w.heap.size + 1, 0, none⟩ = some (.string m.name) ∧ x.cell? ⟨w.heap.size + 1, 1, none⟩ = some (.slice PA m.np pc) ∧ x.cell? ⟨w.heap.size + 1, 2, none⟩ = some (.int .i64 m.res) ∧ x.cell? ⟨w.heap.size + 1, 3, none⟩ = some (.int .i8 kk) ∧
      x.cell? ⟨w.heap.size + 1, 4, none⟩ = some (.string tt) ∧ x.cell? ⟨w.heap.size + 1, 5, none⟩ = some (.slice AA nn cc) ∧ x.cell? ⟨w.heap.size, 0, none⟩ = some (.slice A g.ns c) ∧ x.cell? ⟨w.heap.size, 1, none⟩ = some (.slice FA g.nf fc) ∧ x.cell? ⟨w.heap.size, 2, none⟩ = some (.slice MA g.nm mc)) := fun hb => mgbox_cells (hx0.step hb)
  have hx0' := Lib.hid hx0
  have hr0' := Lib.hid hr0
  have hW' := Lib.hid hW
  clear hx0 hr0 hGW hG hW hri
  go_enter Try.func15, Try.ntmps15
  go_wp2_with fail
  rw [← hW'.out]
  go_region_held3 (fun x => x.cell? ⟨w.heap.size + 1, 0, none⟩ = some (.string m.name) ∧ x.cell? ⟨w.heap.size + 1, 1, none⟩ = some (.slice PA m.np pc) ∧ x.cell? ⟨w.heap.size + 1, 2, none⟩ = some (.int .i64 m.res) ∧ x.cell? ⟨w.heap.size + 1, 3, none⟩ = some (.int .i8 kk) ∧
      x.cell? ⟨w.heap.size + 1, 4, none⟩ = some (.string tt) ∧ x.cell? ⟨w.heap.size + 1, 5, none⟩ = some (.slice AA nn cc) ∧ x.cell? ⟨w.heap.size, 0, none⟩ = some (.slice A g.ns c) ∧ x.cell? ⟨w.heap.size, 1, none⟩ = some (.slice FA g.nf fc) ∧ x.cell? ⟨w.heap.size, 2, none⟩ = some (.slice MA g.nm mc))
    (first | exact hKp hb0 | exact hKp hb7 | exact hKp hb8 | fail)
    (first | (go_at_call 40; (with_reducible refine (hfu.out _ hb0).mono ?_); rintro e w7 ⟨rfl, hb7⟩; replace hb7 := hb0.trans hb7) | (go_at_call 35; (with_reducible refine (hAd.out _ hb7).mono ?_); rintro e w8 ⟨rfl, hb8⟩; replace hb8 := hb7.trans (hb8.mono hb7.size)) | fail)
  all_goals (have hr8 := Lib.hid (hr0'.out.step hb8); have hx8 := Lib.hid (hx0'.out.step hb8); obtain ⟨⟨u0, z0⟩, ⟨u1, z1⟩, ⟨u2, z2⟩, f0, f1, f2, hz⟩ := hr8.out)
  all_goals go_wp2_with fail
  all_goals exact bodyPost_ret (results_sig2 rfl _ _ (w.heap.size + 2) _ _ _ rfl (hr8.out.set _ _ _)) rfl ⟨rfl, Free3.bel hx8.out.bel (by omega) _ _ _⟩
end Go.Proofs.Ythkbekfdjfmmbaa
