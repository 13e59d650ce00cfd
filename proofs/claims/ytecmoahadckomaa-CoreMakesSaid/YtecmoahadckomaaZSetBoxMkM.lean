/- A store into a box leaves nodes as they are. -/
import Derived.Test.YtecmoahadckomaaZTermCTermDaRCheck
import Derived.Test.YtecmoahadckomaaZIntsToNumW
namespace Go.Proofs.Ytecmoahadckomaa
open Go.RowKit Go.Maps

theorem NdIn.setBox {w : World} {b o : Nat} {e : Nd} (h : NdIn w b o e) {a : Addr} {u : Value} (ha : w.cell? a = some u) (hu : ∀ k x, u ≠ .int k x) (u' : Value) : NdIn (w.setCell a u') b o e := by
  have f : ∀ {p : Addr} {k : IntKind} {x : Int}, w.cell? p = some (.int k x) → (w.setCell a u').cell? p = some (.int k x) := by
    intro p k x hp
    by_cases e : a = p
    · subst e; rw [ha] at hp; injection hp with hp; exact absurd hp (hu _ _)
    · exact (World.cell?_setCell_other _ _ _ _ e).trans hp
  obtain ⟨h0, h1, h2, h3, h4, h5, h6, h7⟩ := h
  exact ⟨f h0, f h1, f h2, f h3, f h4, f h5, f h6, f h7⟩
theorem NdsAt.setBox {w : World} {v : Value} {n : Nat} {N : Nat → Nd} (h : NdsAt w v n N) {a : Addr} {u : Value} (ha : w.cell? a = some u) (hu : ∀ k x, u ≠ .int k x) (u' : Value) : NdsAt (w.setCell a u') v n N := by
  obtain ⟨A, c, rfl, hn, hr, hc⟩ := h
  refine ⟨A, c, rfl, hn, hr, fun h0 => ?_⟩
  obtain ⟨b, o, rfl, hb, hc⟩ := hc h0
  exact ⟨b, o, rfl, by simpa using hb, fun i hi => (hc i hi).setBox ha hu u'⟩
end Go.Proofs.Ytecmoahadckomaa

namespace Go.Proofs.Ytecmoahadckomaa
open Go.RowKit Go.Maps

/-- A table that is made: n nodes N, the error so far. -/
structure CSt where
  n : Nat
  N : Nat → Nd
  e : Int
/-- All blocks ahead of B are kept, but those of S. -/
structure But (S : List Nat) (B : Nat) (w w' : World) : Prop where
  os : w'.os = w.os
  tape : w'.tape = w.tape
  output : w'.output = w.output
  size : w.heap.size ≤ w'.heap.size
  block : ∀ k, k < B → k ∉ S → w'.heap[k]? = w.heap[k]?
section
variable {S S' : List Nat} {B B' : Nat} {a b c w w' : World}
theorem But.refl (S : List Nat) (B : Nat) (w : World) : But S B w w := ⟨rfl, rfl, rfl, Nat.le_refl _, fun _ _ _ => rfl⟩
theorem But.trans (h : But S B a b) (k : But S B b c) : But S B a c := ⟨k.os.trans h.os, k.tape.trans h.tape, k.output.trans h.output, Nat.le_trans h.size k.size, fun i h1 h2 => (k.block i h1 h2).trans (h.block i h1 h2)⟩
theorem But.of (h : Below B w w') (S : List Nat) : But S B w w' := ⟨h.os, h.tape, h.output, h.size, fun k h1 _ => h.block k h1⟩
theorem But.mono (h : But S B w w') (hB : B' ≤ B) (hS : ∀ x ∈ S, x ∈ S') : But S' B' w w' := ⟨h.os, h.tape, h.output, h.size, fun k h1 h2 => h.block k (by omega) fun h3 => h2 (hS k h3)⟩
theorem But.below (h : But [] B w w') : Below B w w' := ⟨h.os, h.tape, h.output, h.size, fun k h1 => h.block k h1 (by simp)⟩
theorem But.step (h : But S B a b) (k : Below b.heap.size b c) (hB : B ≤ b.heap.size) : But S B a c := h.trans (But.of (k.mono hB) S)
theorem But.set (h : But S B a w) {g : Nat} (hg : g ∈ S ∨ B ≤ g) (o : Nat) (u : Value) : But S B a (w.setCell ⟨g, o, none⟩ u) :=
  ⟨h.os, h.tape, h.output, by show _ ≤ (w.heap.modify _ _).size; simpa using h.size, fun k h1 h2 => (Below.heap_setCell w ⟨g, o, none⟩ u k (by rcases hg with hg | hg; (exact fun e => h2 (by rw [show k = g from e]; exact hg)); (show k ≠ g; omega))).trans (h.block k h1 h2)⟩
theorem But.drew (h : But S B a w) : But S B a w.drew := ⟨h.os, h.tape, h.output, h.size, h.block⟩
theorem But.alloc (h : But S B a w) (hB : B ≤ w.heap.size) (o : Obj) : But S B a (w.alloc o) := h.trans (But.of ((Below.refl _ _).alloc hB o) S)
theorem But.cell (h : But S B w w') {p : Addr} (hp : p.block < B) (hS : p.block ∉ S) : w'.cell? p = w.cell? p := World.cell?_of_block (w := w) (h.block p.block hp hS)
/-- What was ahead of an older number of blocks and not among S stays below. -/
theorem But.belowOf (h : But S B w w') (hB : B' ≤ B) (hS : ∀ x ∈ S, B' ≤ x) : Below B' w w' := ⟨h.os, h.tape, h.output, h.size, fun k h1 => h.block k (by omega) fun h3 => by have := hS k h3; omega⟩
end
theorem row_set {w : World} {g i : Nat} {u : Value} {cs : Array Value} {t : TypeId} {fr : Nat × Nat} (h : w.heap[g]? = some (.cells cs t fr)) : (w.setCell ⟨g, i, none⟩ u).heap[g]? = some (.cells (cs.setIfInBounds i u) t fr) := by
  have hlt := lt_of_block h
  have h' : w.heap[g] = .cells cs t fr := by simpa [Array.getElem?_eq_getElem hlt] using h
  show (w.heap.modify g _)[g]? = _
  rw [Array.getElem?_eq_getElem (by simpa using hlt), Array.getElem_modify_self, h']
  rfl
/-- Nodes do not lie in a block that is too small for one. -/
theorem NdsAt.apart {w : World} {n : Nat} {N : Nat → Nd} {b o c g : Nat} {cs : Array Value} {t : TypeId} {fr : Nat × Nat} (h : NdsAt w (.slice (some ⟨b, o, none⟩) n c) n N) (h0 : 0 < n) (hg : w.heap[g]? = some (.cells cs t fr)) (hs : cs.size ≤ 7) : b ≠ g := by
  rintro rfl
  obtain ⟨A, c', e, _, _, hc⟩ := h
  injection e with e1 _ e3
  subst e1
  obtain ⟨b', o', e, _, hc⟩ := hc h0
  injection e with e
  injection e with e1 e2
  subst e1 e2
  obtain ⟨_, _, _, _, _, _, _, h7⟩ := hc 0 h0
  rw [cell_of_row w _ _ _ _ _ hg, Array.getElem?_eq_none (by omega)] at h7
  cases h7
theorem NdsAt.setG {w : World} {v : Value} {n : Nat} {N : Nat → Nd} {g : Nat} {cs : Array Value} {t : TypeId} {fr : Nat × Nat} (h : NdsAt w v n N) (hg : w.heap[g]? = some (.cells cs t fr)) (hs : cs.size ≤ 7) (i : Nat) (u : Value) : NdsAt (w.setCell ⟨g, i, none⟩ u) v n N := by
  have h' := h
  obtain ⟨A, c, rfl, hn, hr, hc⟩ := h
  refine ⟨A, c, rfl, hn, hr, fun h0 => ?_⟩
  obtain ⟨b, o, rfl, hb, hc⟩ := hc h0
  have hne := h'.apart h0 hg hs
  exact ⟨b, o, rfl, by simpa using hb, fun i hi => (hc i hi).keep fun j => World.cell?_setCell_other _ _ _ _ (fun e => hne (by injection e with e; exact e.symm))⟩
theorem NdsAt.but {w w' : World} {v : Value} {n : Nat} {N : Nat → Nd} {S : List Nat} (h : NdsAt w v n N) (hb : But S w.heap.size w w') (hS : ∀ g ∈ S, ∃ cs t fr, w.heap[g]? = some (.cells cs t fr) ∧ cs.size ≤ 7) : NdsAt w' v n N := by
  have h' := h
  obtain ⟨A, c, rfl, hn, hr, hc⟩ := h
  refine ⟨A, c, rfl, hn, hr, fun h0 => ?_⟩
  obtain ⟨b, o, rfl, hlt, hc⟩ := hc h0
  refine ⟨b, o, rfl, by have := hb.size; omega, fun i hi => (hc i hi).keep fun j => hb.cell (p := ⟨b, j, none⟩) hlt fun hm => ?_⟩
  obtain ⟨cs, t, fr, hg, hs⟩ := hS b hm
  exact h'.apart h0 hg hs rfl
/-- At g lies a maker: a table of s, how many nodes at most, the error so far. -/
def MkrAt (w : World) (g : Nat) (most : Int) (s : CSt) : Prop := ∃ v, w.heap[g]? = some (.cells #[v, .int .i64 most, .int .i64 s.e] 45 (0, 0)) ∧ NdsAt w v s.n s.N
section
variable {w w' : World} {g : Nat} {most : Int} {s : CSt}
theorem MkrAt.lt (h : MkrAt w g most s) : g < w.heap.size := by obtain ⟨v, h, _⟩ := h; exact lt_of_block h
theorem MkrAt.below (h : MkrAt w g most s) (hb : Below w.heap.size w w') : MkrAt w' g most s := by
  have hl := h.lt
  obtain ⟨v, h, hv⟩ := h
  exact ⟨v, (hb.block g hl).trans h, hv.below hb⟩
theorem MkrAt.drew (h : MkrAt w g most s) : MkrAt w.drew g most s := h.below (Below.refl _ _).drew
theorem MkrAt.setE (h : MkrAt w g most s) (er : Int) : MkrAt (w.setCell ⟨g, 2, none⟩ (.int .i64 er)) g most ⟨s.n, s.N, er⟩ := by
  obtain ⟨v, h, hv⟩ := h
  exact ⟨v, row_set h, hv.setG h (by simp) _ _⟩
theorem MkrAt.setT (h : MkrAt w g most s) {v' : Value} {m : Nat} {M : Nat → Nd} (hv' : NdsAt w v' m M) : MkrAt (w.setCell ⟨g, 0, none⟩ v') g most ⟨m, M, s.e⟩ := by
  obtain ⟨v, h, hv⟩ := h
  exact ⟨v', row_set h, hv'.setG h (by simp) _ _⟩
theorem MkrAt.nds (h : MkrAt w g most s) {v : Value} {n : Nat} {N : Nat → Nd} (hv : NdsAt w v n N) (o : Nat) (u : Value) : NdsAt (w.setCell ⟨g, o, none⟩ u) v n N := by
  obtain ⟨v0, h, _⟩ := h
  exact hv.setG h (by simp) _ _
theorem But.setg {g B : Nat} {a w : World} (h : But [g] B a w) (o : Nat) (u : Value) : But [g] B a (w.setCell ⟨g, o, none⟩ u) := h.set (.inl (by simp)) o u
theorem MkrAt.cells (h : MkrAt w g most s) : ∃ A c, w.cell? ⟨g, 0, none⟩ = some (.slice A s.n c) ∧ w.cell? ⟨g, 1, none⟩ = some (.int .i64 most) ∧ w.cell? ⟨g, 2, none⟩ = some (.int .i64 s.e) ∧ w.frozen? ⟨g, 0, none⟩ = false ∧ w.frozen? ⟨g, 2, none⟩ = false ∧ NdsAt w (.slice A s.n c) s.n s.N := by
  obtain ⟨v, h, hv⟩ := h
  have hv' := hv
  obtain ⟨A, c, rfl, _, _, _⟩ := hv
  exact ⟨A, c, cell_of_row w g 0 _ _ _ h, cell_of_row w g 1 _ _ _ h, cell_of_row w g 2 _ _ _ h, by simp [World.frozen?, h], by simp [World.frozen?, h], hv'⟩
end
/-- What a maker's method leaves: the maker of a state s', a number x, and all else as it was. -/
def MkrPost (g : Nat) (most : Int) (R : CSt → Int → Prop) (w : World) (z : Ending) (w' : World) : Prop :=
  ∃ s' x, z = .returned (.int .i64 x) ∧ R s' x ∧ MkrAt w' g most s' ∧ But [g] w.heap.size w w'
end Go.Proofs.Ytecmoahadckomaa
