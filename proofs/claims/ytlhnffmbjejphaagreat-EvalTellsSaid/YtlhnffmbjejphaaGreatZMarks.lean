/- Marks of loops that are over (as in GathA, for seats without term.args). -/
import Derived.RangeFuncNested
import Derived.RangeFuncLeaves
import Derived.RangeFuncFrom
import Derived.Test.YtlhnffmbjejphaaGreatZIntsToSame10
namespace Go.Proofs.YtlhnffmbjejphaaGreat
open Go.RowKit

/-- Marks of loops that are over: shut one by one at the end. -/
def markD (D : Nat) : Deferred := { target := .collected D, args := #[] }
structure Marks (B : Nat) (w : World) (Ds : List Nat) : Prop where
  nd : Ds.Nodup
  at_ : ∀ D ∈ Ds, B ≤ D ∧ w.heap[D]? = some (.deferred (some []))
theorem Marks.nil (B : Nat) (w : World) : Marks B w [] := ⟨List.nodup_nil, fun _ h => by cases h⟩
theorem Marks.lt {B : Nat} {w : World} {Ds : List Nat} (h : Marks B w Ds) {D : Nat} (hD : D ∈ Ds) : D < w.heap.size := (Array.getElem?_eq_some_iff.1 (h.at_ D hD).2).1
theorem Marks.keep {B : Nat} {w w' : World} {Ds : List Nat} (h : Marks B w Ds) (hk : ∀ D ∈ Ds, w'.heap[D]? = w.heap[D]?) : Marks B w' Ds :=
  ⟨h.nd, fun D hD => ⟨(h.at_ D hD).1, (hk D hD).trans (h.at_ D hD).2⟩⟩
theorem Marks.cons {B : Nat} {w : World} {Ds : List Nat} (h : Marks B w Ds) {D : Nat} (h1 : B ≤ D) (h2 : w.heap[D]? = some (.deferred (some []))) (h3 : D ∉ Ds) : Marks B w (D :: Ds) :=
  ⟨List.nodup_cons.2 ⟨h3, h.nd⟩, fun D' hD' => by
    rcases List.mem_cons.1 hD' with rfl | hD'
    · exact ⟨h1, h2⟩
    · exact h.at_ D' hD'⟩
theorem leaves_marks {F : Fence} {n : Nat} {P : Program} {fn : Func} {tmps : Array Value} {R : Ending → World → Prop} {B : Nat} : ∀ (Ds : List Nat) (w : World), B ≤ w.heap.size → Marks B w Ds →
    (∀ w', Below B w w' → LeavesIn F n P fn tmps R [] .returning w') → LeavesInM F n P fn tmps R (Ds.map markD) .returning w
  | [], w, _, _, h => h w (Below.refl B w)
  | D :: Ds, w, hB, hm, h => by
    have hb : Below B w (w.putObj D (.deferred none)) := (Below.refl B w).grown (grownBy_putObj' w D _) hB (fun k e => by cases e; exact (hm.at_ D (by simp)).1)
    refine ⟨by simp, .inl ⟨D, w.putObj D (.deferred none), rfl, run_takeDeferred (hm.at_ D (by simp)).2, ?_⟩⟩
    refine leaves_marks Ds _ (Nat.le_trans hB hb.size) ⟨(List.nodup_cons.1 hm.nd).2, fun D' hD' => ⟨(hm.at_ D' (by simp [hD'])).1, ?_⟩⟩ fun w' hw' => h w' (hb.trans hw')
    have hne : D' ≠ D := fun e => (List.nodup_cons.1 hm.nd).1 (e ▸ hD')
    have hlt := hm.lt (D := D') (by simp [hD'])
    have hg := grownBy_putObj' w D (.deferred none)
    rw [hg.block D' hlt (by simpa using hne)]
    exact (hm.at_ D' (by simp [hD'])).2
theorem ownFrom_of_below {β : Type} {C : Nat} {I : β → World → Prop} (h : ∀ s W W', I s W → Below C W W' → I s W') (hs : ∀ s W, I s W → C ≤ W.heap.size) : OwnFrom C I := fun s W _ _ hi hg hr =>
  h s W _ hi ((Below.refl C W).grown hg (hs s W hi) (fun k e => (hr k e).1))
end Go.Proofs.YtlhnffmbjejphaaGreat
