/- Cells of the call's own boxes, carried from world to world. -/
import Derived.Test.YtlhnffmbjejphaaZIntsNum
namespace Go.Proofs.Ytlhnffmbjejphaa
open Go.RowKit

def cellsK : List (Nat × Nat × Value) → World → Prop
  | [], _ => True
  | (b, o, v) :: K, x => (x.cell? ⟨b, o, none⟩ = some v ∧ b < x.heap.size) ∧ cellsK K x
/-- The cells of a row, from the i-th one on. -/
def rowK (b : Nat) : List Value → Nat → List (Nat × Nat × Value)
  | [], _ => []
  | v :: l, i => (b, i, v) :: rowK b l (i + 1)
theorem cellsK.step {K : List (Nat × Nat × Value)} {x y : World} (h : cellsK K x) (hb : Below x.heap.size x y) : cellsK K y := by
  induction K with
  | nil => trivial
  | cons a K ih =>
    obtain ⟨b, o, v⟩ := a
    obtain ⟨⟨h0, h1⟩, h2⟩ := h
    exact ⟨⟨(hb.cell (p := ⟨b, o, none⟩) h1).trans h0, by have := hb.size; omega⟩, ih h2⟩
/-- x is w below its blocks, and holds K. -/
structure Bx (w : World) (K : List (Nat × Nat × Value)) (x : World) : Prop where
  cells : cellsK K x
  bel : Below w.heap.size w x
section
variable {w x y : World} {K : List (Nat × Nat × Value)}
theorem Bx.nil (w : World) : Bx w [] w := ⟨trivial, Below.refl _ _⟩
theorem Bx.step (h : Bx w K x) (hb : Below x.heap.size x y) : Bx w K y := ⟨h.cells.step hb, h.bel.trans (hb.mono h.bel.size)⟩
theorem Bx.drew (h : Bx w K x) : Bx w K x.drew := h.step (Below.refl _ _).drew
theorem Bx.drewN (h : Bx w K x) (d : Nat) : Bx w K (x.drewN d) := h.step (below_drewN (Below.refl _ _) d)
theorem Bx.skip (h : Bx w K x) (o : Obj) : Bx w K (x.alloc o) := h.step ((Below.refl _ _).alloc (Nat.le_refl _) _)
theorem Bx.one (h : Bx w K x) (v : Value) (t : TypeId) : Bx w ((x.heap.size, 0, v) :: K) (x.alloc (.cells #[v] t)) :=
  ⟨⟨by simp, (h.skip _).cells⟩, (h.skip _).bel⟩
theorem Bx.cast {L : List (Nat × Nat × Value)} (h : Bx w K x) (e : K = L) : Bx w L x := e ▸ h
theorem Bx.row (h : Bx w K x) (vs : Array Value) (t : TypeId) : Bx w (rowK x.heap.size vs.toList 0 ++ K) (x.alloc (.cells vs t)) := by
  refine ⟨?_, (h.skip _).bel⟩
  have : ∀ (l : List Value) (i : Nat), (∀ j, j < l.length → l[j]? = vs[i + j]?) → cellsK (rowK x.heap.size l i ++ K) (x.alloc (.cells vs t)) := by
    intro l
    induction l with
    | nil => intro i _; exact (h.skip _).cells
    | cons v l ih =>
      intro i hl
      have h0 := hl 0 (by simp)
      simp at h0
      refine ⟨⟨?_, by simp⟩, ih (i + 1) fun j hj => ?_⟩
      · have hlt : i < vs.size := (Array.getElem?_eq_some_iff.1 h0.symm).1
        have hr := World.rowIs_alloc x vs t (fun i => vs.getD i .nilIface) (fun i hi => by simp [Array.getD, hi])
        rw [hr.cell hlt]
        rw [Array.getElem?_eq_getElem hlt] at h0
        injection h0 with h0
        simp [Array.getD, hlt, h0]
      · have := hl (j + 1) (by simp; omega)
        simp at this
        rw [this]
        congr 1
        omega
  exact this vs.toList 0 fun j hj => by simp
theorem cellsK.grown {r : Nat} (h : cellsK K x) (hg : x.grownBy y (some r)) (hK : ∀ a ∈ K, a.1 ≠ r) : cellsK K y := by
  induction K with
  | nil => trivial
  | cons a K ih =>
    obtain ⟨b, o, v⟩ := a
    obtain ⟨⟨h0, h1⟩, h2⟩ := h
    have hne : b ≠ r := hK (b, o, v) (by simp)
    refine ⟨⟨?_, Nat.lt_of_lt_of_le h1 hg.size⟩, ih h2 fun a ha => hK a (by simp [ha])⟩
    have hh : y.heap[b]? = x.heap[b]? := hg.block b h1 (by simpa using hne)
    rw [← h0]
    unfold World.cell?
    simp only [hh]
theorem Bx.grown {r : Nat} (h : Bx w K x) (hg : x.grownBy y (some r)) (hw : w.heap.size ≤ r) (hK : ∀ a ∈ K, a.1 ≠ r) : Bx w K y :=
  ⟨h.cells.grown hg hK, h.bel.grown hg h.bel.size (fun k hk => by injection hk with hk; omega)⟩
theorem Bx.drop {a : Nat × Nat × Value} (h : Bx w (a :: K) x) : Bx w K x := ⟨h.cells.2, h.bel⟩
/-- A store into the box at the head. -/
theorem cellsK.set {b o : Nat} {u : Value} (h : cellsK K x) (hne : ∀ a ∈ K, a.1 ≠ b) : cellsK K (x.setCell ⟨b, o, none⟩ u) := by
  induction K with
  | nil => trivial
  | cons a K ih =>
    obtain ⟨b', o', v'⟩ := a
    obtain ⟨⟨h0, h1⟩, h2⟩ := h
    have hb' : b' ≠ b := hne (b', o', v') (by simp)
    refine ⟨⟨?_, by simpa using h1⟩, ih h2 fun a ha => hne a (by simp [ha])⟩
    by_cases ho : (⟨b, o, none⟩ : Addr) = ⟨b', o', none⟩
    · injection ho with e1 e2; exact absurd e1.symm hb'
    · exact (World.cell?_setCell_other _ _ _ _ ho).trans h0
theorem Bx.set {b o : Nat} {v : Value} (h : Bx w ((b, o, v) :: K) x) (u : Value) (hne : ∀ a ∈ K, a.1 ≠ b) (hw : w.heap.size ≤ b) : Bx w ((b, o, u) :: K) (x.setCell ⟨b, o, none⟩ u) :=
  ⟨⟨⟨World.cell?_setCell_same' _ _ _ (by rw [h.cells.1.1]; rfl), by have := h.cells.1.2; simpa using this⟩, h.cells.2.set hne⟩, h.bel.setCell hw _⟩
end
theorem cellsK.app {K L : List (Nat × Nat × Value)} {x : World} (h : cellsK (K ++ L) x) : cellsK K x ∧ cellsK L x := by
  induction K with
  | nil => exact ⟨trivial, h⟩
  | cons a K ih =>
    obtain ⟨b, o, v⟩ := a
    exact ⟨⟨h.1, (ih h.2).1⟩, (ih h.2).2⟩
theorem Bx.left {w x : World} {K L : List (Nat × Nat × Value)} (h : Bx w (K ++ L) x) : Bx w K x := ⟨h.cells.app.1, h.bel⟩
theorem Bx.right {w x : World} {K L : List (Nat × Nat × Value)} (h : Bx w (K ++ L) x) : Bx w L x := ⟨h.cells.app.2, h.bel⟩
end Go.Proofs.Ytlhnffmbjejphaa
