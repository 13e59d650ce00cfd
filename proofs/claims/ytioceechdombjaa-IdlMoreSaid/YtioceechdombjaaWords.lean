/- Words for memory: a slice value that reads as edges. -/
import Derived.Test.YtioceechdombjaaInts
import Derived.Test.YtioceechdombjaaBell
namespace Go.Proofs.Ytioceechdombjaa
open Go.RowKit

/-- The slice value v reads, in w, as the n edges E 0 .. -/
def EdsAt (w : World) (v : Value) (n : Nat) (E : Nat → Ed) : Prop :=
  ∃ (A : Option Addr) (c : Nat), v = .slice A n c ∧ n ≤ 9223372036854775807 ∧ (∀ i, i < n → R64 (E i).src ∧ R64 (E i).dst ∧ R64 (E i).wt) ∧
    (0 < n → ∃ b o, A = some ⟨b, o, none⟩ ∧ b < w.heap.size ∧ ∀ i, i < n →
      w.cell? ⟨b, o + i * 3, none⟩ = some (.int .i64 (E i).src) ∧ w.cell? ⟨b, o + i * 3 + 1, none⟩ = some (.int .i64 (E i).dst) ∧ w.cell? ⟨b, o + i * 3 + 2, none⟩ = some (.int .i64 (E i).wt))

section
variable {w w' : World} {v : Value} {n : Nat} {E : Nat → Ed}
theorem EdsAt.keep (h : EdsAt w v n E) (hs : w.heap.size ≤ w'.heap.size) (hk : ∀ p : Addr, p.block < w.heap.size → w'.cell? p = w.cell? p) : EdsAt w' v n E := by
  obtain ⟨A, c, rfl, hn, hr, hc⟩ := h
  refine ⟨A, c, rfl, hn, hr, fun h0 => ?_⟩
  obtain ⟨b, o, rfl, hb, hc⟩ := hc h0
  exact ⟨b, o, rfl, by omega, fun i hi => ⟨(hk _ hb).trans (hc i hi).1, (hk _ hb).trans (hc i hi).2.1, (hk _ hb).trans (hc i hi).2.2⟩⟩
theorem EdsAt.below (h : EdsAt w v n E) (hb : Below w.heap.size w w') : EdsAt w' v n E := h.keep hb.size fun _ hp => hb.cell hp
end
end Go.Proofs.Ytioceechdombjaa
