/- gantrylaw25.wakes. -/
import Derived.Test.YtioceechdombjaaIdlV
namespace Go.Proofs.Ytioceechdombjaa
open Go.RowKit Go.Maps
set_option maxRecDepth 100000

theorem ints2 (w : World) (x y : Int) (hx : R64 x) (hy : R64 y) : IntsAt (w.alloc (.cells #[.int .i64 x, .int .i64 y] 3)) (.slice (some ⟨w.heap.size, 0, none⟩) 2 2) [x, y].length (gfn [x, y]) := by
  refine ⟨_, _, rfl, by simp, fun i hi => ?_, fun _ => ⟨w.heap.size, 0, rfl, by simp, fun i hi => ?_⟩⟩
  · have hi' : i < 2 := hi
    have : i = 0 ∨ i = 1 := by omega
    rcases this with rfl | rfl
    · exact hx
    · exact hy
  · have hi' : i < 2 := hi
    have : i = 0 ∨ i = 1 := by omega
    rcases this with rfl | rfl
    · simp [gfn]
    · simp [gfn]
theorem ints1' (w : World) (x : Int) (hx : R64 x) : IntsAt (w.alloc (.cells #[.int .i64 x] 3)) (.slice (some ⟨w.heap.size, 0, none⟩) 1 1) [x].length (gfn [x]) := by
  refine ⟨_, _, rfl, by simp, fun i hi => ?_, fun _ => ⟨w.heap.size, 0, rfl, by simp, fun i hi => ?_⟩⟩
  · have : i = 0 := by have : i < 1 := hi; omega
    subst this; exact hx
  · have : i = 0 := by have : i < 1 := hi; omega
    subst this; simp [gfn]
theorem lits2 (x y : Int) (hx : x = 8 ∨ x = 9 ∨ x = 10 ∨ x = 11) (hy : y = 8 ∨ y = 9 ∨ y = 10 ∨ y = 11) : ∀ a ∈ [x, y], badLit 6 n6 a = false := by
  intro a ha
  rcases List.mem_cons.1 ha with rfl | ha
  · exact two_lits _ hx
  · exact two_lits _ ((List.mem_singleton.1 ha) ▸ hy)
theorem lits1 (x : Int) (hx : x = 8 ∨ x = 9 ∨ x = 10 ∨ x = 11) : ∀ a ∈ [x], badLit 6 n6 a = false := fun _ ha => two_lits _ ((List.mem_singleton.1 ha) ▸ hx)
theorem two_at (w0 x : World) (h : Below w0.heap.size w0 x) : Calls Try.prog 26 #[] x fun e w' => ∃ v, e = .returned (.agg #[v]) ∧ NdsAt w' v 6 n6 ∧ Below x.heap.size x w' ∧ Below w0.heap.size w0 w' :=
  (two_any x).mono fun _ _ ⟨v, h1, h2, h3⟩ => ⟨v, h1, h2, h3, h.trans (h3.mono h.size)⟩
theorem lem_at (w0 x : World) (h : Below w0.heap.size w0 x) (v u : Value) (xs : List Int) (b : Bool) (hN : NdsAt x v 6 n6) (hu : IntsAt x u xs.length (gfn xs)) (hm : xs.length ≤ 1000) (hxs : ∀ a ∈ xs, badLit 6 n6 a = false) (hb : ckB 6 n6 (xs.map negL) = b) :
    Calls Try.prog 10 #[.agg #[v], u] x fun e w' => e = .returned (.bool b) ∧ Below w0.heap.size w0 w' :=
  (Lemma_any v u 6 n6 xs x hN (by omega) check_n6 hu hm hxs).mono fun _ _ ⟨h1, h2⟩ => ⟨by rw [h1, hb], h.trans (h2.mono h.size)⟩

set_option maxHeartbeats 4000000 in
theorem wakes25_any (w : World) : Calls Try.prog 11 #[] w fun e w' => e = .returned (.bool true) ∧ Below w.heap.size w w' := by
  go_enter Try.func11, Try.ntmps11
  go_wp2_with fail
  refine (two_any _).mono ?_
  rintro e w2 ⟨v2, rfl, hN2, hb2⟩
  go_wp2_with fail
  refine (ICheck_any _ _ 6 n6 [8, 10] _ (hN2.alloc _) (by omega) check_n6 (ints2 w2 8 10 ⟨by decide, by decide⟩ ⟨by decide, by decide⟩) (by decide) (lits2 8 10 (by omega) (by omega))).mono ?_
  rintro e w3 ⟨z3, rfl, _, hb3⟩
  rw [ckE_zero two_bad, two_bad]
  have hw3 := hb2.trans (((Below.refl w2.heap.size w2).alloc (Nat.le_refl _) (.cells #[.int .i64 8, .int .i64 10] 3)).trans (hb3.mono (by simp)) |>.mono hb2.size)
  clear hN2 hb2 hb3
  go_wp2_with fail
  refine (two_any _).mono ?_
  rintro e w4 ⟨v4, rfl, hN4, hb4⟩
  go_wp2_with fail
  refine (ICheck_any _ _ 6 n6 [8, 11] _ (hN4.alloc _) (by omega) check_n6 (ints2 w4 8 11 ⟨by decide, by decide⟩ ⟨by decide, by decide⟩) (by decide) (lits2 8 11 (by omega) (by omega))).mono ?_
  rintro e w5 ⟨z5, rfl, ho5, hb5⟩
  rw [two_ok', two_ok]
  rw [two_nums] at ho5
  have hi5 := ho5.ints (by decide) (fun x hx => by simp at hx; subst hx; exact ⟨by decide, by decide⟩)
  have hw4 := hw3.trans (hb4.mono hw3.size)
  have hw5 := hw4.trans (((Below.refl w4.heap.size w4).alloc (Nat.le_refl _) (.cells #[.int .i64 8, .int .i64 11] 3)).trans (hb5.mono (by simp)) |>.mono hw4.size)
  obtain ⟨Z, zc, rfl, _, _, hz⟩ := hi5
  obtain ⟨zb, zo, rfl, hzb, hzc⟩ := hz (by decide)
  have c1 := hzc 1 (by decide)
  have c2 := hzc 2 (by decide)
  have c3 := hzc 3 (by decide)
  simp at c1 c2 c3
  have hz6 : [0, 0, 0, 0, 0, (0 : Int)].length = 6 := rfl
  clear hN4 hb4 hb5 hw3 hw4 hzc hz ho5
  rw [hz6]
  clear hz6
  have hKp : ∀ {x : World}, Below w5.heap.size w5 x → (x.cell? ⟨zb, zo + 1, none⟩ = some (.int .i64 0) ∧ x.cell? ⟨zb, zo + 2, none⟩ = some (.int .i64 0) ∧ x.cell? ⟨zb, zo + 3, none⟩ = some (.int .i64 0)) := fun h =>
    ⟨(h.cell (p := ⟨zb, zo + 1, none⟩) hzb).trans c1, (h.cell (p := ⟨zb, zo + 2, none⟩) hzb).trans c2, (h.cell (p := ⟨zb, zo + 3, none⟩) hzb).trans c3⟩
  have hb0 : Below w5.heap.size w5 w5.drew := (Below.refl _ _).drew
  have hb0a : Below w5.heap.size w5 (w5.alloc (.cells #[.int .i64 9, .int .i64 11] 3)).drew := ((Below.refl _ _).alloc (Nat.le_refl _) _).drew
  have hT := fun x h => two_at w5 x h
  have hL1 := fun x h v u hN hu => lem_at w5 x h v u [9, 11] true hN hu (by decide) (lits2 9 11 (by omega) (by omega)) two_lem
  have hL2 := fun x h v u hN hu => lem_at w5 x h v u [9] false hN hu (by decide) (lits1 9 (by omega)) two_lem'
  have hI1 := fun x => ints2 x 9 11 ⟨by decide, by decide⟩ ⟨by decide, by decide⟩
  have hI2 := fun x => ints1' x 9 ⟨by decide, by decide⟩
  go_wp2_with fail
  clear c1 c2 c3
  go_region_held3 (fun x => x.cell? ⟨zb, zo + 1, none⟩ = some (.int .i64 0) ∧ x.cell? ⟨zb, zo + 2, none⟩ = some (.int .i64 0) ∧ x.cell? ⟨zb, zo + 3, none⟩ = some (.int .i64 0))
    (first | exact hKp hb0 | exact hKp hb0a | exact hKp hb7 | exact hKp (hb7.alloc hb7.size _) | exact hKp hb8 | exact hKp (hb8.alloc hb8.size _) | exact hKp hb9 | exact hKp (hb9.alloc hb9.size _) | exact hKp hb10 | fail)
    (first | (go_at_call 26; (with_reducible refine Calls.mono (hT _ hb0) ?_); rintro e w7 ⟨v7, rfl, hN7, hx7, hb7⟩)
           | (go_at_call 26; (with_reducible refine Calls.mono (hT _ hb0a) ?_); rintro e w7 ⟨v7, rfl, hN7, hx7, hb7⟩; have hi7 := IntsAt.below (w := (w5.alloc (.cells #[.int .i64 9, .int .i64 11] 3)).drew) (hI1 w5) hx7)
           | (go_at_call 10; (with_reducible refine Calls.mono (hL1 _ (hb7.alloc hb7.size _) v7 _ (hN7.alloc _) (hI1 w7)) ?_); rintro e w8 ⟨rfl, hb8⟩)
           | (go_at_call 10; (with_reducible refine Calls.mono (hL1 _ hb7 v7 _ hN7 hi7) ?_); rintro e w8 ⟨rfl, hb8⟩)
           | (go_at_call 26; (with_reducible refine Calls.mono (hT _ hb8) ?_); rintro e w9 ⟨v9, rfl, hN9, hx9, hb9⟩)
           | (go_at_call 26; (with_reducible refine Calls.mono (hT _ (hb8.alloc hb8.size (.cells #[.int .i64 9] 3))) ?_); rintro e w9 ⟨v9, rfl, hN9, hx9, hb9⟩; have hi9 := (hI2 w8).below hx9)
           | (go_at_call 10; (with_reducible refine Calls.mono (hL2 _ (hb9.alloc hb9.size _) v9 _ (hN9.alloc _) (hI2 w9)) ?_); rintro e w10 ⟨rfl, hb10⟩)
           | (go_at_call 10; (with_reducible refine Calls.mono (hL2 _ hb9 v9 _ hN9 hi9) ?_); rintro e w10 ⟨rfl, hb10⟩)
           | fail)
  all_goals go_wp2
  all_goals go_ret
  all_goals exact ⟨rfl, hw5.trans (hb10.mono hw5.size)⟩
end Go.Proofs.Ytioceechdombjaa
