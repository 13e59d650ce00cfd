/- A list that came in, opened with the form's own reach. -/
import Derived.Test.YtoppfcfalciibaaOpenT
import Derived.SizedLaws
namespace Go.Proofs.Ytoppfcfalciibaa
open Go.RowKit Go.ChangeShapes Go.WideShapes Go.Deep
set_option maxRecDepth 100000

section
variable {H : Type} {enc : TypeId × Value → H} {W : World} {base : Nat} {d : DataW H} {p : List MemPlace} {v : Value}
theorem bytes_int : Try.prog.bytesOf 3 = 8 := by kernel_rfl
theorem open_listS (hv : Value.okWide Try.prog W .any base 41 v) (h : DataW.Trod enc Try.prog W 0 (fun _ => true) true 41 v d p) :
    ∃ n f, IntsAt W v n f ∧ ∀ (ts : List TypeId) (ds : List (DataW H)) (j : Nat), (DataW.weightsEach Try.prog ts ds).all (· ≤ reachBytes) = true → ts[j]? = some 41 → ds[j]? = some d → n ≤ 140737488355328 := by
  obtain ⟨n, f, hI⟩ := open_list hv h
  refine ⟨n, f, hI, fun ts ds j hs ht hd => ?_⟩
  obtain ⟨A, c, rfl, _, _, _⟩ := hI
  obtain ⟨fuel, hf⟩ := h
  rcases open_ints Try.underlying41 Try.underlying3 (by kernel_rfl) hf with ⟨hcs, _⟩ | ⟨x, l, c', zs, hcs, _, hl, hm, hz, hx, _, _⟩
  · simp [Value.cells] at hcs
    obtain ⟨_, rfl, _⟩ := hcs
    omega
  · simp [Value.cells] at hcs
    obtain ⟨_, rfl, rfl⟩ := hcs
    injection hx with hx _
    subst hx
    have := sized_slice hs ht hd Try.underlying41
    rw [bytes_int] at this
    have hz' : zs.length = c := by simpa using hz
    simp only [lits, List.length_map, List.length_take, List.length_drop, reachBytes] at this
    omega
end
end Go.Proofs.Ytoppfcfalciibaa
