/- A list of numbers that came in, its capacity too. -/
import Derived.Test.YthkbekfdjfmmbaaZOpenT
import Derived.Test.YthkbekfdjfmmbaaZTyW
namespace Go.Proofs.Ythkbekfdjfmmbaa
open Go.RowKit Go.ChangeShapes Go.WideShapes Go.Deep
set_option maxRecDepth 100000

section
variable {H : Type} {enc : TypeId × Value → H} {W : World} {base : Nat} {d : DataW H} {p : List MemPlace} {v : Value}
theorem open_listC (hv : Value.okWide Try.prog W .any base 52 v) (h : DataW.Trod enc Try.prog W 0 (fun _ => true) true 52 v d p) : ∃ n f, IntsAt W v n f ∧ CapOk v := by
  obtain ⟨n, f, hI⟩ := open_list hv h
  refine ⟨n, f, hI, fun A' n' c' e => ?_⟩
  obtain ⟨A, c, rfl, _, _, _⟩ := hI
  injection e with e1 e2 e3
  subst e2 e3
  obtain ⟨fuel, hf⟩ := h
  rcases open_ints Try.underlying52 Try.underlying3 (by kernel_rfl) hf with ⟨hcs, _⟩ | ⟨x, l, c', zs, hcs, _, hl, hm, hz, hx, _, _⟩
  · simp [Value.cells] at hcs
    obtain ⟨_, rfl, rfl⟩ := hcs
    omega
  · simp [Value.cells] at hcs
    obtain ⟨_, rfl, rfl⟩ := hcs
    unfold maxLen at hm
    omega
end
end Go.Proofs.Ythkbekfdjfmmbaa
