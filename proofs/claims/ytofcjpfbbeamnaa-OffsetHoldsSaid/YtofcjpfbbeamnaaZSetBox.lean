/- A store into a box leaves nodes as they are. -/
import Derived.Test.YtofcjpfbbeamnaaZTermCTermDa
namespace Go.Proofs.Ytofcjpfbbeamnaa
open Go.RowKit Go.Maps

theorem NdIn.setBox {w : World} {b o : Nat} {e : Nd} (h : NdIn w b o e) {a : Addr} {u : Value} (ha : w.cell? a = some u) (hu : ∀ k x, u ≠ .int k x) (u' : Value) : NdIn (w.setCell a u') b o e := by
  have f : ∀ {p : Addr} {k : IntKind} {x : Int}, w.cell? p = some (.int k x) → (w.setCell a u').cell? p = some (.int k x) := by
    intro p k x hp
    by_cases e : a = p
    · subst e; rw [ha] at hp; injection hp with hp; exact absurd hp (hu _ _)
    · exact (World.cell?_setCell_other _ _ _ _ e).trans hp
  obtain ⟨h0, h1, h2, h3, h4, h5, h6, h7⟩ := h
  exact ⟨f h0, f h1, f h2, f h3, f h4, f h5, f h6, f h7⟩
theorem NdsAt.setBox {w : World} {v : Value} {n : Nat} {N : Nat → Nd} (h : NdsAt w v n N) {a : Addr} {u : Value} (ha : w.cell? a = some u) (hu : ∀ k x, u ≠ .int k x) (u' : Value) : NdsAt (w.setCell a u') v n N := by
  obtain ⟨A, c, rfl, hn, hr, hc⟩ := h
  refine ⟨A, c, rfl, hn, hr, fun h0 => ?_⟩
  obtain ⟨b, o, rfl, hb, hc⟩ := hc h0
  exact ⟨b, o, rfl, by simpa using hb, fun i hi => (hc i hi).setBox ha hu u'⟩
end Go.Proofs.Ytofcjpfbbeamnaa
