/- An argument that came in, opened to the words of the walks: ints, edges. -/
import Derived.Test.YtoifcpdkophobaaWords
import Derived.ProofKit
import Derived.OpenShut
import Derived.Deep.Slices
import Derived.Deep.Fields
namespace Go.Proofs.Ytoifcpdkophobaa
open Go.RowKit Go.ChangeShapes Go.WideShapes Go.Deep

section
variable {H : Type} {enc : TypeId × Value → H} {W : World} {base : Nat} {d : DataW H} {p : List MemPlace} {v : Value}

theorem r64_of_wf {x : Int} (h : (Lit.int .i64 x).wf = true) : R64 x := by
  unfold R64
  exact bounds_i64 h

theorem open_i64 (hv : Value.okWide Try.prog W .any base 3 v) (h : DataW.Trod enc Try.prog W 0 (fun _ => true) true 3 v d p) : ∃ x, v = .int .i64 x ∧ R64 x := by
  obtain ⟨x, rfl, _, _, wx⟩ := open_int Try.underlying3 hv h
  exact ⟨x, rfl, r64_of_wf wx⟩

theorem addr_at {W : World} {a : Addr} {j : Nat} {u : Value} (h : W.cell? (a.add j) = some u) (h0 : ∃ u, W.cell? (a.add 0) = some u) : ∃ b o, a = ⟨b, o, none⟩ ∧ W.cell? ⟨b, o + j, none⟩ = some u := by
  obtain ⟨b, o, s⟩ := a
  obtain ⟨u0, h0⟩ := h0
  have hs : s = none := by simpa [Addr.add] using World.cell?_spot h0
  subst hs
  refine ⟨b, o, rfl, ?_⟩
  rw [← h]
  unfold Addr.add
  split
  · next e => subst e; rfl
  · rfl

theorem open_list (hv : Value.okWide Try.prog W .any base 25 v) (h : DataW.Trod enc Try.prog W 0 (fun _ => true) true 25 v d p) : ∃ n f, IntsAt W v n f := by
  obtain ⟨a0, len0, cap0, rfl⟩ := okWide_slice Try.underlying25 hv
  obtain ⟨fuel, hf⟩ := h
  rcases open_ints Try.underlying25 Try.underlying3 (by kernel_rfl) hf with ⟨hcs, _⟩ | ⟨x, l, c, zs, hcs, _, hl, hm, hz, _, hcell, hwz⟩
  · simp [Value.cells] at hcs
    obtain ⟨rfl, rfl, rfl⟩ := hcs
    exact ⟨0, fun _ => 0, none, 0, rfl, by omega, fun i hi => by omega, fun h => by omega⟩
  · simp [Value.cells] at hcs
    obtain ⟨rfl, rfl, rfl⟩ := hcs
    have hz' : zs.length = cap0 := by simpa using hz
    unfold maxLen at hm
    refine ⟨len0, fun i => zs.getD i 0, some x, cap0, rfl, by omega, fun i hi => ?_, fun h0 => ?_⟩
    · show R64 (zs.getD i 0)
      rw [getD_lt _ _ (by omega)]
      exact r64_of_wf (hwz _ (List.getElem_mem _))
    · have hc0 := hcell 0 (by omega)
      obtain ⟨b, o, rfl, _⟩ := addr_at hc0 ⟨_, hc0⟩
      refine ⟨b, o, rfl, World.block_lt_of_cell? _ _ (show W.cell? ((⟨b, o, none⟩ : Addr).add 0) = some _ from hc0), fun i hi => ?_⟩
      obtain ⟨b', o', e, hc⟩ := addr_at (hcell i (by omega)) ⟨_, hc0⟩
      injection e with e1 e2
      subst e1; subst e2
      exact hc

theorem open_eds (hv : Value.okWide Try.prog W .any base 22 v) (h : DataW.Trod enc Try.prog W 0 (fun _ => true) true 22 v d p) : ∃ n E, EdsAt W v n E := by
  obtain ⟨a0, len0, cap0, rfl⟩ := okWide_slice Try.underlying22 hv
  obtain ⟨fuel, hf⟩ := h
  rcases open_slice Try.underlying22 hf with ⟨hcs, _⟩ | ⟨a, len, cap, m, n, D, Pl, hcs, _, hl, hm, hmm, _, hi⟩
  · simp [Value.cells] at hcs
    obtain ⟨rfl, rfl, rfl⟩ := hcs
    exact ⟨0, fun _ => ⟨0, 0, 0⟩, none, 0, rfl, by omega, fun i hi => by omega, fun h => by omega⟩
  · simp [Value.cells] at hcs
    obtain ⟨rfl, rfl, rfl⟩ := hcs
    simp only [if_true] at hmm
    subst hmm
    have hC : Try.prog.cellsOf 34 = 3 := by kernel_rfl
    rw [hC] at hi
    unfold maxLen at hm
    have key : ∀ i, i < m → ∃ e : Ed, (R64 e.src ∧ R64 e.dst ∧ R64 e.wt) ∧ W.cell? (a.add (i * 3)) = some (.int .i64 e.src) ∧ W.cell? (a.add (i * 3 + 1)) = some (.int .i64 e.dst) ∧ W.cell? (a.add (i * 3 + 2)) = some (.int .i64 e.wt) := by
      intro i him
      obtain ⟨cs', hc, ht⟩ := hi i him
      obtain ⟨_, hlen, hat⟩ := World.cells?_some hc
      obtain ⟨xs, n', _, hx, _, hxl, hg⟩ := DataW.trod_struct Try.underlying34 ht
      match cs', hlen with
      | [c0, c1, c2], _ =>
        obtain ⟨s, e0, _, w0⟩ := DataW.trod_int Try.underlying3 ((hg 0 _ rfl).trans (List.getElem?_eq_getElem (by rw [hxl]; decide)))
        obtain ⟨t, e1, _, w1⟩ := DataW.trod_int Try.underlying3 ((hg 1 _ rfl).trans (List.getElem?_eq_getElem (by rw [hxl]; decide)))
        obtain ⟨z, e2, _, w2⟩ := DataW.trod_int Try.underlying3 ((hg 2 _ rfl).trans (List.getElem?_eq_getElem (by rw [hxl]; decide)))
        have hC1 : Try.prog.cellsOf 3 = 1 := by kernel_rfl
        simp [hC1] at e0 e1 e2
        subst e0 e1 e2
        refine ⟨⟨s, t, z⟩, ⟨r64_of_wf w0, r64_of_wf w1, r64_of_wf w2⟩, ?_, ?_, ?_⟩
        · have := hat 0 (by omega); rw [add_add] at this; simpa using this
        · have := hat 1 (by omega); rw [add_add] at this; simpa using this
        · have := hat 2 (by omega); rw [add_add] at this; simpa using this
    obtain ⟨E, hE⟩ := choose_lt (α := Ed) (p := fun i e => (R64 e.src ∧ R64 e.dst ∧ R64 e.wt) ∧ W.cell? (a.add (i * 3)) = some (.int .i64 e.src) ∧ W.cell? (a.add (i * 3 + 1)) = some (.int .i64 e.dst) ∧ W.cell? (a.add (i * 3 + 2)) = some (.int .i64 e.wt)) key
    refine ⟨len0, E, some a, m, rfl, by omega, fun i hi => (hE i (by omega)).1, fun h0 => ?_⟩
    have hc0 := (hE 0 (by omega)).2.1
    simp only [Nat.zero_mul] at hc0
    obtain ⟨b, o, rfl, _⟩ := addr_at hc0 ⟨_, hc0⟩
    refine ⟨b, o, rfl, World.block_lt_of_cell? _ _ (show W.cell? ((⟨b, o, none⟩ : Addr).add 0) = some _ from hc0), fun i hi => ?_⟩
    obtain ⟨_, g0, g1, g2⟩ := hE i (by omega)
    have mv : ∀ {j : Nat} {u : Value}, W.cell? ((⟨b, o, none⟩ : Addr).add j) = some u → W.cell? ⟨b, o + j, none⟩ = some u := by
      intro j u h
      obtain ⟨b', o', e, hc⟩ := addr_at h ⟨_, hc0⟩
      injection e with e1 e2
      subst e1; subst e2
      exact hc
    exact ⟨mv g0, mv g1, mv g2⟩
end
end Go.Proofs.Ytoifcpdkophobaa
