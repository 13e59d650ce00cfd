/- An argument that came in, opened to the words of the walks: worlds. -/
import Derived.Test.YtdcohcjkimgccaaZOpenG
import Derived.Test.YtdcohcjkimgccaaZNumWorldM
namespace Go.Proofs.Ytdcohcjkimgccaa
open Go.RowKit Go.ChangeShapes Go.WideShapes Go.Deep Go.ChangeMaps
set_option maxRecDepth 100000
instance : Inhabited Rw := ⟨⟨0, 0, 0, 0⟩⟩
instance : Inhabited Fv := ⟨⟨0, fun _ => ⟨0, 0, 0, 0⟩, 0⟩⟩

section
variable {H : Type} {enc : TypeId × Value → H} {W : World} {base : Nat} {d : DataW H} {p : List MemPlace} {v : Value}

theorem ints_of_trod {bs fuel : Nat} {cs : List Value} {x : DataW H × List MemPlace} (h : DataW.trod enc Try.prog W bs (fun _ => true) true fuel 25 cs = some x) : ∃ v n f, cs = [v] ∧ IntsAt W v n f := by
  have hC : Try.prog.cellsOf 3 = 1 := by kernel_rfl
  obtain ⟨v, n, e, X, hX⟩ := row_of (α := Int) (K := fun a w b o => w.cell? ⟨b, o, none⟩ = some (.int .i64 a) ∧ R64 a) Try.underlying25 hC (by omega) h (fun m hm cs' y b o hlen hcell htr => by
    obtain ⟨k, rfl, w0⟩ := int_of_trod htr
    exact ⟨k, hcell 0 _ rfl, w0⟩)
  refine ⟨v, n, X, e, ?_⟩
  obtain ⟨A, c, rfl, hlc, hcs⟩ := hX
  refine ⟨A, c, rfl, by omega, fun i hi => ?_, fun h0 => ?_⟩
  · obtain ⟨b, o, _, _, hc⟩ := hcs (by omega)
    exact (hc i hi).2
  · obtain ⟨b, o, hA, hb, hc⟩ := hcs h0
    refine ⟨b, o, hA, hb, fun i hi => ?_⟩
    have := (hc i hi).1
    rw [Nat.mul_one] at this
    exact this
theorem rws_of_trod {bs fuel : Nat} {cs : List Value} {x : DataW H × List MemPlace} (h : DataW.trod enc Try.prog W bs (fun _ => true) true fuel 89 cs = some x) : ∃ v n R, cs = [v] ∧ RwsAt W v n R := by
  have hC : Try.prog.cellsOf 136 = 4 := by kernel_rfl
  obtain ⟨v, n, e, X, hX⟩ := row_of (α := Rw) (K := fun a w b o => RwLies w b o a ∧ RwR a) Try.underlying89 hC (by omega) h (fun m hm cs' y b o hlen hcell htr => by
    obtain ⟨xs, n', hf, hx, _, hxl, hg⟩ := DataW.trod_struct Try.underlying136 htr
    match cs', hlen with
    | [c0, c1, c2, c3], _ =>
      have ha := (hg 0 _ rfl).trans (List.getElem?_eq_getElem (by rw [hxl]; decide))
      have h5 := (hg 1 _ rfl).trans (List.getElem?_eq_getElem (by rw [hxl]; decide))
      obtain ⟨x5, e5, w5⟩ := int_of_trod h5
      have hC1 : Try.prog.cellsOf 3 = 1 := by kernel_rfl
      have hC3 : Try.prog.cellsOf 37 = 3 := by kernel_rfl
      simp [hC1, hC3] at ha e5
      obtain ⟨y0, y1, y2, n, _, t0, t1, t2⟩ := trod_array3 Try.underlying37 hC1 ha
      obtain ⟨x2, e2, w2⟩ := int_of_trod t0
      obtain ⟨x3, e3, w3⟩ := int_of_trod t1
      obtain ⟨x4, e4, w4⟩ := int_of_trod t2
      simp at e2 e3 e4
      subst e2 e3 e4 e5
      exact ⟨⟨x2, x3, x4, x5⟩, ⟨hcell 0 _ rfl, hcell 1 _ rfl, hcell 2 _ rfl, hcell 3 _ rfl⟩, ⟨w2, w3, w4, w5⟩⟩)
  exact ⟨v, n, X, e, hX⟩
theorem fvs_of_trod {bs fuel : Nat} {cs : List Value} {x : DataW H × List MemPlace} (h : DataW.trod enc Try.prog W bs (fun _ => true) true fuel 49 cs = some x) : ∃ v n F, cs = [v] ∧ FvsAt W v n F := by
  have hC : Try.prog.cellsOf 91 = 2 := by kernel_rfl
  obtain ⟨v, n, e, X, hX⟩ := row_of (α := Fv) (K := fun a w b o => ∃ v0 v1, (w.cell? ⟨b, o, none⟩ = some v0 ∧ w.cell? ⟨b, o + 1, none⟩ = some v1) ∧ FvIs w a v0 v1) Try.underlying49 hC (by omega) h (fun m hm cs' y b o hlen hcell htr => by
    obtain ⟨xs, n', hf, hx, _, hxl, hg⟩ := DataW.trod_struct Try.underlying91 htr
    match cs', hlen with
    | [c0, c1], _ =>
      have h0 := (hg 0 _ rfl).trans (List.getElem?_eq_getElem (by rw [hxl]; decide))
      have h1 := (hg 1 _ rfl).trans (List.getElem?_eq_getElem (by rw [hxl]; decide))
      have hC1 : Try.prog.cellsOf 3 = 1 := by kernel_rfl
      have hC2 : Try.prog.cellsOf 89 = 1 := by kernel_rfl
      obtain ⟨k, e1, w1⟩ := int_of_trod h1
      simp [hC1, hC2] at h0 e1
      obtain ⟨rv, nr, R, e0, hR⟩ := rws_of_trod h0
      simp at e0
      subst e0 e1
      exact ⟨⟨nr, R, k⟩, _, _, ⟨hcell 0 _ rfl, hcell 1 _ rfl⟩, hR, rfl, w1⟩)
  exact ⟨v, n, X, e, hX⟩
theorem open_world (hv : Value.okWide Try.prog W .any base 51 v) (h : DataW.Trod enc Try.prog W 0 (fun _ => true) true 51 v d p) : ∃ z f X, v = .agg #[z, f] ∧ WdAt W z f X := by
  obtain ⟨cs, rfl, hsz⟩ := okWide_struct Try.underlying51 hv
  have hC : Try.prog.cellsOf 51 = 2 := by kernel_rfl
  rw [hC] at hsz
  obtain ⟨l⟩ := cs
  match l, hsz with
  | [c0, c1], _ =>
    obtain ⟨fuel, hf⟩ := h
    obtain ⟨xs, n', _, hx, _, hxl, hg⟩ := DataW.trod_struct Try.underlying51 hf
    have h0 := (hg 0 _ rfl).trans (List.getElem?_eq_getElem (by rw [hxl]; decide))
    have h1 := (hg 1 _ rfl).trans (List.getElem?_eq_getElem (by rw [hxl]; decide))
    have hC1 : Try.prog.cellsOf 25 = 1 := by kernel_rfl
    have hC2 : Try.prog.cellsOf 49 = 1 := by kernel_rfl
    simp [hC1, hC2, Value.cells] at h0 h1
    obtain ⟨zv, nz, Z, e0, hZ⟩ := ints_of_trod h0
    obtain ⟨fv, nf, F, e1, hF⟩ := fvs_of_trod h1
    simp at e0 e1
    subst e0 e1
    exact ⟨_, _, ⟨nz, Z, nf, F⟩, rfl, hZ, hF⟩
end
end Go.Proofs.Ytdcohcjkimgccaa
