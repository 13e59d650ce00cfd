/- The boxes of a signature, a table, a node. -/
import Derived.Test.YthkbekfdjfmmbaaZTyW
namespace Go.Proofs.Ythkbekfdjfmmbaa
open Go.RowKit
set_option maxRecDepth 100000
def soK (w : World) (sv fv mv tv : Value) (e : Nd) : List (Nat × Nat × Value) :=
  [(w.heap.size + 2, 0, .int .i8 e.op), (w.heap.size + 2, 1, .int .i8 e.len), (w.heap.size + 2, 2, .int .i64 e.a0), (w.heap.size + 2, 3, .int .i64 e.a1), (w.heap.size + 2, 4, .int .i64 e.a2), (w.heap.size + 2, 6, .int .i64 e.fn),
   (w.heap.size + 1, 0, tv), (w.heap.size, 0, sv), (w.heap.size, 1, fv), (w.heap.size, 2, mv)]
theorem soK_lt {w : World} {sv fv mv tv : Value} {e : Nd} : ∀ a ∈ soK w sv fv mv tv e, a.1 < w.heap.size + 3 := by
  intro a ha
  simp [soK] at ha
  rcases ha with rfl | rfl | rfl | rfl | rfl | rfl | rfl | rfl | rfl | rfl <;> simp
theorem soK_bx (w : World) (sv fv mv tv : Value) (e : Nd) : Bx w (soK w sv fv mv tv e) (((w.alloc (.cells #[sv, fv, mv] 26)).alloc (.cells #[tv] 60)).alloc (.cells (ndC e).toArray 62)) := by
  have h := (((Bx.nil w).row #[sv, fv, mv] 26).row #[tv] 60).row (ndC e).toArray 62
  simp only [rowK, ndC, World.size_alloc, List.append_nil, List.cons_append, List.nil_append] at h
  obtain ⟨⟨h0, h1, h2, h3, h4, h5, h6, h7, h8⟩, hb⟩ := h
  exact ⟨⟨h0, h1, h2, h3, h4, h6, h8⟩, hb⟩
theorem arg_cell {w x : World} {sv fv mv tv : Value} {e : Nd} (h : Bx w (soK w sv fv mv tv e) x) {j : Nat} (hj : j < 3) : x.cell? ⟨w.heap.size + 2, 2 + j, none⟩ = some (.int .i64 (e.arg j)) := by
  obtain ⟨h0, h1, ⟨h2, _⟩, ⟨h3, _⟩, ⟨h4, _⟩, _⟩ := h.cells
  match j, hj with
  | 0, _ => exact h2
  | 1, _ => exact h3
  | 2, _ => exact h4
end Go.Proofs.Ythkbekfdjfmmbaa

namespace Go.Proofs.Ythkbekfdjfmmbaa
open Go.RowKit
set_option maxRecDepth 100000
/-- May the node e stand behind the nodes N? -/
noncomputable def mayT (g : Sg) (n : Nat) (N : Nat → Nd) (e : Nd) : Bool := checkG g && (checkB n N && standsB e n)
theorem checkB_yes' {n : Nat} {N : Nat → Nd} (h : CheckP n N) : checkB n N = true := by unfold checkB; exact @decide_eq_true _ (Classical.propDecidable _) h
theorem checkB_no' {n : Nat} {N : Nat → Nd} (h : ¬ CheckP n N) : checkB n N = false := by unfold checkB; exact @decide_eq_false _ (Classical.propDecidable _) h
theorem put_may {n : Nat} {N : Nat → Nd} {e : Nd} {m : Nat} {M : Nat → Nd} {a er : Int} (h : PutR n N e ((n : Int) + 1) m M a er) : (er == 0) = (checkB n N && standsB e n) := by
  cases h with
  | arg h =>
    rcases Classical.em (CheckP n N) with h1 | h1
    · rw [stands_no (fun h2 => h ⟨h1, h2⟩), Bool.and_false]; rfl
    · rw [checkB_no' h1]; rfl
  | there h hs i hi he => rw [checkB_yes' h, stands_yes hs]; rfl
  | many h hs hne hm => omega
  | put h hs hne hm => rw [checkB_yes' h, stands_yes hs]; rfl
def sgK (w : World) (sv fv mv tv : Value) (e : Nd) : List (Nat × Nat × Value) :=
  rowK (w.heap.size + 2) [.int .i8 e.op, .int .i8 e.len, .int .i64 e.a0, .int .i64 e.a1, .int .i64 e.a2, .int .i64 e.sort, .int .i64 e.fn, .int .i64 e.num] 0 ++ toK w sv fv mv tv
theorem sgK_bx (w : World) (sv fv mv tv : Value) (e : Nd) : Bx w (sgK w sv fv mv tv e) (((w.alloc (.cells #[sv, fv, mv] 26)).alloc (.cells #[tv] 60)).alloc (.cells #[.int .i8 e.op, .int .i8 e.len, .int .i64 e.a0, .int .i64 e.a1, .int .i64 e.a2, .int .i64 e.sort, .int .i64 e.fn, .int .i64 e.num] 62)) := by
  have h := (toK_bx w sv fv mv tv).row #[.int .i8 e.op, .int .i8 e.len, .int .i64 e.a0, .int .i64 e.a1, .int .i64 e.a2, .int .i64 e.sort, .int .i64 e.fn, .int .i64 e.num] 62
  simp only [World.size_alloc] at h
  exact h
theorem sgK_cells {w x : World} {sv fv mv tv : Value} {e : Nd} (h : Bx w (sgK w sv fv mv tv e) x) :
    x.cell? ⟨w.heap.size + 2, 0, none⟩ = some (.int .i8 e.op) ∧ x.cell? ⟨w.heap.size + 2, 1, none⟩ = some (.int .i8 e.len) ∧ x.cell? ⟨w.heap.size + 2, 2, none⟩ = some (.int .i64 e.a0) ∧ x.cell? ⟨w.heap.size + 2, 3, none⟩ = some (.int .i64 e.a1) ∧ x.cell? ⟨w.heap.size + 2, 4, none⟩ = some (.int .i64 e.a2)
      ∧ x.cell? ⟨w.heap.size + 2, 5, none⟩ = some (.int .i64 e.sort) ∧ x.cell? ⟨w.heap.size + 2, 6, none⟩ = some (.int .i64 e.fn) ∧ x.cell? ⟨w.heap.size + 2, 7, none⟩ = some (.int .i64 e.num) ∧ x.cell? ⟨w.heap.size + 1, 0, none⟩ = some tv ∧ x.cell? ⟨w.heap.size, 0, none⟩ = some sv ∧ x.cell? ⟨w.heap.size, 1, none⟩ = some fv ∧ x.cell? ⟨w.heap.size, 2, none⟩ = some mv := by
  obtain ⟨h0, h1, h2, h3, h4, h5, h6, h7, h8, h9, h10, h11, _⟩ := h.cells
  exact ⟨h0.1, h1.1, h2.1, h3.1, h4.1, h5.1, h6.1, h7.1, h8.1, h9.1, h10.1, h11.1⟩
/-- typing.Node's answer. -/
noncomputable def nodeE (g : Sg) (n : Nat) (N : Nat → Nd) (e : Nd) : Int := if mayT g n N e = false then 2 else if okNd g N e = true then 0 else 33
theorem may_in {g : Sg} {n : Nat} {N : Nat → Nd} {e : Nd} (hR : NdR e) (h : mayT g n N e = true) : InT n e := by
  unfold mayT at h
  simp only [Bool.and_eq_true] at h
  refine InT.of hR (at_ := n) ?_ (Int.le_refl _)
  rcases Classical.em (StandsP e n) with hs | hs
  · exact hs
  · rw [stands_no hs] at h; exact absurd h.2.2 (by decide)
end Go.Proofs.Ythkbekfdjfmmbaa
