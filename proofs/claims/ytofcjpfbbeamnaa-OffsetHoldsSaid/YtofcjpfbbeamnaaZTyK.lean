/- The boxes of a signature, a table, a node. -/
import Derived.Test.YtofcjpfbbeamnaaZTyWR6Op
namespace Go.Proofs.Ytofcjpfbbeamnaa
open Go.RowKit
set_option maxRecDepth 100000
def soK (w : World) (sv fv mv tv : Value) (e : Nd) : List (Nat × Nat × Value) :=
  [(w.heap.size + 2, 0, .int .i8 e.op), (w.heap.size + 2, 1, .int .i8 e.len), (w.heap.size + 2, 2, .int .i64 e.a0), (w.heap.size + 2, 3, .int .i64 e.a1), (w.heap.size + 2, 4, .int .i64 e.a2), (w.heap.size + 2, 6, .int .i64 e.fn),
   (w.heap.size + 1, 0, tv), (w.heap.size, 0, sv), (w.heap.size, 1, fv), (w.heap.size, 2, mv)]
theorem soK_lt {w : World} {sv fv mv tv : Value} {e : Nd} : ∀ a ∈ soK w sv fv mv tv e, a.1 < w.heap.size + 3 := by
  intro a ha
  simp [soK] at ha
  rcases ha with rfl | rfl | rfl | rfl | rfl | rfl | rfl | rfl | rfl | rfl <;> simp
theorem soK_bx (w : World) (sv fv mv tv : Value) (e : Nd) : Bx w (soK w sv fv mv tv e) (((w.alloc (.cells #[sv, fv, mv] 49)).alloc (.cells #[tv] 24)).alloc (.cells (ndC e).toArray 28)) := by
  have h := (((Bx.nil w).row #[sv, fv, mv] 49).row #[tv] 24).row (ndC e).toArray 28
  simp only [rowK, ndC, World.size_alloc, List.append_nil, List.cons_append, List.nil_append] at h
  obtain ⟨⟨h0, h1, h2, h3, h4, h5, h6, h7, h8⟩, hb⟩ := h
  exact ⟨⟨h0, h1, h2, h3, h4, h6, h8⟩, hb⟩
theorem arg_cell {w x : World} {sv fv mv tv : Value} {e : Nd} (h : Bx w (soK w sv fv mv tv e) x) {j : Nat} (hj : j < 3) : x.cell? ⟨w.heap.size + 2, 2 + j, none⟩ = some (.int .i64 (e.arg j)) := by
  obtain ⟨h0, h1, ⟨h2, _⟩, ⟨h3, _⟩, ⟨h4, _⟩, _⟩ := h.cells
  match j, hj with
  | 0, _ => exact h2
  | 1, _ => exact h3
  | 2, _ => exact h4
end Go.Proofs.Ytofcjpfbbeamnaa
