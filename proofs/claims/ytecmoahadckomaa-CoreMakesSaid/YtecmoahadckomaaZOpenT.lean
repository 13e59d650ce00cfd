/- An argument that came in, opened to the words of the walks: ints, nodes, tables (no edges). -/
import Derived.Test.YtecmoahadckomaaZNodeArityStands
import Derived.ProofKit
import Derived.OpenShut
import Derived.Deep.Slices
import Derived.Deep.Fields
import Derived.Laws.IdiomArrays
namespace Go.Proofs.Ytecmoahadckomaa
open Go.RowKit Go.ChangeShapes Go.WideShapes Go.Deep
set_option maxRecDepth 100000
instance : Inhabited Nd := ⟨nd0⟩

section
variable {H : Type} {enc : TypeId × Value → H} {W : World} {base : Nat} {d : DataW H} {p : List MemPlace} {v : Value}

theorem r64_of_wf {x : Int} (h : (Lit.int .i64 x).wf = true) : R64 x := by
  unfold R64
  exact bounds_i64 h
theorem r8_of_wf {x : Int} (h : (Lit.int .i8 x).wf = true) : R8 x := by
  unfold R8
  simp [Lit.wf, IntKind.min, IntKind.max, IntKind.signed, IntKind.bits] at h
  omega

theorem open_i64 (hv : Value.okWide Try.prog W .any base 3 v) (h : DataW.Trod enc Try.prog W 0 (fun _ => true) true 3 v d p) : ∃ x, v = .int .i64 x ∧ R64 x := by
  obtain ⟨x, rfl, _, _, wx⟩ := open_int Try.underlying3 hv h
  exact ⟨x, rfl, r64_of_wf wx⟩

theorem addr_at {W : World} {a : Addr} {j : Nat} {u : Value} (h : W.cell? (a.add j) = some u) (h0 : ∃ u, W.cell? (a.add 0) = some u) : ∃ b o, a = ⟨b, o, none⟩ ∧ W.cell? ⟨b, o + j, none⟩ = some u := by
  obtain ⟨b, o, s⟩ := a
  obtain ⟨u0, h0⟩ := h0
  have hs : s = none := by simpa [Addr.add] using World.cell?_spot h0
  subst hs
  refine ⟨b, o, rfl, ?_⟩
  rw [← h]
  unfold Addr.add
  split
  · next e => subst e; rfl
  · rfl

theorem open_list (hv : Value.okWide Try.prog W .any base 25 v) (h : DataW.Trod enc Try.prog W 0 (fun _ => true) true 25 v d p) : ∃ n f, IntsAt W v n f := by
  obtain ⟨a0, len0, cap0, rfl⟩ := okWide_slice Try.underlying25 hv
  obtain ⟨fuel, hf⟩ := h
  rcases open_ints Try.underlying25 Try.underlying3 (by kernel_rfl) hf with ⟨hcs, _⟩ | ⟨x, l, c, zs, hcs, _, hl, hm, hz, _, hcell, hwz⟩
  · simp [Value.cells] at hcs
    obtain ⟨rfl, rfl, rfl⟩ := hcs
    exact ⟨0, fun _ => 0, none, 0, rfl, by omega, fun i hi => by omega, fun h => by omega⟩
  · simp [Value.cells] at hcs
    obtain ⟨rfl, rfl, rfl⟩ := hcs
    have hz' : zs.length = cap0 := by simpa using hz
    unfold maxLen at hm
    refine ⟨len0, fun i => zs.getD i 0, some x, cap0, rfl, by omega, fun i hi => ?_, fun h0 => ?_⟩
    · show R64 (zs.getD i 0)
      rw [getD_lt _ _ (by omega)]
      exact r64_of_wf (hwz _ (List.getElem_mem _))
    · have hc0 := hcell 0 (by omega)
      obtain ⟨b, o, rfl, _⟩ := addr_at hc0 ⟨_, hc0⟩
      refine ⟨b, o, rfl, World.block_lt_of_cell? _ _ (show W.cell? ((⟨b, o, none⟩ : Addr).add 0) = some _ from hc0), fun i hi => ?_⟩
      obtain ⟨b', o', e, hc⟩ := addr_at (hcell i (by omega)) ⟨_, hc0⟩
      injection e with e1 e2
      subst e1; subst e2
      exact hc

theorem node_of_trod {w : World} {spare : Nat → Bool} {fuel bs : Nat} {cs : List Value} {x : DataW H × List MemPlace} (h : DataW.trod enc Try.prog w bs spare true fuel 39 cs = some x) (hl : cs.length = 8) : ∃ e, NdR e ∧ cs = ndC e := by
  obtain ⟨xs, n', _, hx, _, hxl, hg⟩ := DataW.trod_struct Try.underlying39 h
  match cs, hl with
  | [c0, c1, c2, c3, c4, c5, c6, c7], _ =>
    obtain ⟨x0, e0, _, w0⟩ := DataW.trod_int Try.underlying36 ((hg 0 _ rfl).trans (List.getElem?_eq_getElem (by rw [hxl]; decide)))
    obtain ⟨x1, e1, _, w1⟩ := DataW.trod_int Try.underlying36 ((hg 1 _ rfl).trans (List.getElem?_eq_getElem (by rw [hxl]; decide)))
    have ha := (hg 2 _ rfl).trans (List.getElem?_eq_getElem (by rw [hxl]; decide))
    obtain ⟨x5, e5, _, w5⟩ := DataW.trod_int Try.underlying3 ((hg 3 _ rfl).trans (List.getElem?_eq_getElem (by rw [hxl]; decide)))
    obtain ⟨x6, e6, _, w6⟩ := DataW.trod_int Try.underlying3 ((hg 4 _ rfl).trans (List.getElem?_eq_getElem (by rw [hxl]; decide)))
    obtain ⟨x7, e7, _, w7⟩ := DataW.trod_int Try.underlying3 ((hg 5 _ rfl).trans (List.getElem?_eq_getElem (by rw [hxl]; decide)))
    have hC1 : Try.prog.cellsOf 3 = 1 := by kernel_rfl
    have hC2 : Try.prog.cellsOf 36 = 1 := by kernel_rfl
    have hC3 : Try.prog.cellsOf 37 = 3 := by kernel_rfl
    simp [hC1, hC2, hC3] at e0 e1 ha e5 e6 e7
    obtain ⟨y0, y1, y2, n, _, t0, t1, t2⟩ := trod_array3 Try.underlying37 hC1 ha
    obtain ⟨x2, e2, _, w2⟩ := DataW.trod_int Try.underlying3 t0
    obtain ⟨x3, e3, _, w3⟩ := DataW.trod_int Try.underlying3 t1
    obtain ⟨x4, e4, _, w4⟩ := DataW.trod_int Try.underlying3 t2
    simp at e2 e3 e4
    subst e0 e1 e2 e3 e4 e5 e6 e7
    exact ⟨⟨x0, x1, x2, x3, x4, x5, x6, x7⟩, ⟨r8_of_wf w0, r8_of_wf w1, r64_of_wf w2, r64_of_wf w3, r64_of_wf w4, r64_of_wf w5, r64_of_wf w6, r64_of_wf w7⟩, rfl⟩

theorem open_node (hv : Value.okWide Try.prog W .any base 39 v) (h : DataW.Trod enc Try.prog W 0 (fun _ => true) true 39 v d p) : ∃ e, v = ndV e ∧ NdR e := by
  obtain ⟨cs, rfl, hsz⟩ := okWide_struct Try.underlying39 hv
  have hC : Try.prog.cellsOf 39 = 8 := by kernel_rfl
  rw [hC] at hsz
  obtain ⟨fuel, hf⟩ := h
  obtain ⟨e, he, hcs⟩ := node_of_trod hf (by simpa [Value.cells] using hsz)
  refine ⟨e, ?_, he⟩
  have : cs = (ndC e).toArray := by rw [← hcs]; simp [Value.cells]
  rw [this]; rfl

theorem open_nodes (hv : ∃ a0 len0 cap0, v = .slice a0 len0 cap0) (h : DataW.Trod enc Try.prog W 0 (fun _ => true) true 22 v d p) : ∃ n N, NdsAt W v n N := by
  obtain ⟨a0, len0, cap0, rfl⟩ := hv
  obtain ⟨fuel, hf⟩ := h
  rcases open_slice Try.underlying22 hf with ⟨hcs, _⟩ | ⟨a, len, cap, m, n, D, Pl, hcs, _, hl, hm, hmm, _, hi⟩
  · simp [Value.cells] at hcs
    obtain ⟨rfl, rfl, rfl⟩ := hcs
    exact ⟨0, fun _ => nd0, NdsAt.nil _ _⟩
  · simp [Value.cells] at hcs
    obtain ⟨rfl, rfl, rfl⟩ := hcs
    simp only [if_true] at hmm
    subst hmm
    have hC : Try.prog.cellsOf 39 = 8 := by kernel_rfl
    rw [hC] at hi
    unfold maxLen at hm
    have key : ∀ i, i < m → ∃ e : Nd, NdR e ∧ ∀ j u, (ndC e)[j]? = some u → W.cell? (a.add (i * 8 + j)) = some u := by
      intro i him
      obtain ⟨cs', hc, ht⟩ := hi i him
      obtain ⟨_, hlen, hat⟩ := World.cells?_some hc
      obtain ⟨e, he, rfl⟩ := node_of_trod ht hlen
      refine ⟨e, he, fun j u hj => ?_⟩
      have h8 : j < 8 := (List.getElem?_eq_some_iff.1 hj).1
      have := hat j h8
      rw [add_add] at this
      rw [this]
      exact hj
    obtain ⟨E, hE⟩ := choose_lt (α := Nd) (p := fun i e => NdR e ∧ ∀ j u, (ndC e)[j]? = some u → W.cell? (a.add (i * 8 + j)) = some u) key
    refine ⟨len0, E, some a, m, rfl, by omega, fun i hi => (hE i (by omega)).1, fun h0 => ?_⟩
    have hc0 := (hE 0 (by omega)).2 0 _ rfl
    simp only [Nat.zero_mul, Nat.add_zero] at hc0
    obtain ⟨b, o, rfl, _⟩ := addr_at hc0 ⟨_, hc0⟩
    refine ⟨b, o, rfl, World.block_lt_of_cell? _ _ (show W.cell? ((⟨b, o, none⟩ : Addr).add 0) = some _ from hc0), fun i hi => ?_⟩
    obtain ⟨_, g⟩ := hE i (by omega)
    have mv : ∀ {j : Nat} {u : Value}, W.cell? ((⟨b, o, none⟩ : Addr).add j) = some u → W.cell? ⟨b, o + j, none⟩ = some u := by
      intro j u h
      obtain ⟨b', o', e, hc⟩ := addr_at h ⟨_, hc0⟩
      injection e with e1 e2
      subst e1; subst e2
      exact hc
    exact ⟨mv (g 0 _ rfl), mv (g 1 _ rfl), mv (g 2 _ rfl), mv (g 3 _ rfl), mv (g 4 _ rfl), mv (g 5 _ rfl), mv (g 6 _ rfl), mv (g 7 _ rfl)⟩

theorem open_table (hv : Value.okWide Try.prog W .any base 24 v) (h : DataW.Trod enc Try.prog W 0 (fun _ => true) true 24 v d p) : ∃ u n N, v = .agg #[u] ∧ NdsAt W u n N := by
  obtain ⟨cs, rfl, hsz⟩ := okWide_struct Try.underlying24 hv
  have hC : Try.prog.cellsOf 24 = 1 := by kernel_rfl
  rw [hC] at hsz
  obtain ⟨l⟩ := cs
  match l, hsz with
  | [u], _ =>
    obtain ⟨fuel, hf⟩ := h
    obtain ⟨xs, n', _, hx, _, hxl, hg⟩ := DataW.trod_struct Try.underlying24 hf
    have h0 := (hg 0 _ rfl).trans (List.getElem?_eq_getElem (by rw [hxl]; decide))
    have hC1 : Try.prog.cellsOf 22 = 1 := by kernel_rfl
    simp [hC1, Value.cells] at h0
    have hs : ∃ a0 len0 cap0, u = .slice a0 len0 cap0 := by
      rcases DataW.trod_slice Try.underlying22 h0 with ⟨h, _⟩ | ⟨a, len, cap, _, _, _, _, h, _⟩
      · simp at h; exact ⟨_, _, _, h⟩
      · simp at h; exact ⟨_, _, _, h⟩
    obtain ⟨n, N, hN⟩ := open_nodes (v := u) hs ⟨n', by
      obtain ⟨a0, l0, c0, rfl⟩ := hs
      exact h0⟩
    exact ⟨u, n, N, rfl, hN⟩
end
end Go.Proofs.Ytecmoahadckomaa
