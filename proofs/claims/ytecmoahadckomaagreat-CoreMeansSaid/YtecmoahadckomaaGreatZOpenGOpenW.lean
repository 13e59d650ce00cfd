/- An argument that came in, opened to the words of the walks: strings, functions, signatures. -/
import Derived.Test.YtecmoahadckomaaGreatZOpenT
import Derived.Test.YtecmoahadckomaaGreatZSigMToFirst
import Derived.ChangeMaps5
namespace Go.Proofs.YtecmoahadckomaaGreat
open Go.RowKit Go.ChangeShapes Go.WideShapes Go.Deep Go.ChangeMaps
set_option maxRecDepth 100000
instance : Inhabited Fn := ⟨fn0⟩
instance : Inhabited Pm := ⟨⟨ByteArray.empty, 0⟩⟩
instance : Inhabited Sx := ⟨.nil⟩
instance : Inhabited Mc := ⟨⟨ByteArray.empty, 0, fun _ => ⟨ByteArray.empty, 0⟩, 0, .nil⟩⟩

section
variable {H : Type} {enc : TypeId × Value → H} {W : World} {base : Nat} {d : DataW H} {p : List MemPlace} {v : Value}

theorem trod_row {t e : TypeId} {k : Nat} (ht : Tryz.prog.underlying t = some (.slice e)) (hk : Tryz.prog.cellsOf e = k) (hk0 : 0 < k) {bs : Nat} {fuel : Nat} {cs : List Value} {x : DataW H × List MemPlace}
    (h : DataW.trod enc Tryz.prog W bs (fun _ => true) true fuel t cs = some x) :
    ∃ (A : Option Addr) (len c n : Nat), fuel = n + 1 ∧ cs = [.slice A len c] ∧ (len ≤ c ∧ c ≤ 9223372036854775807) ∧
      (0 < len → ∃ b o, A = some ⟨b, o, none⟩ ∧ b < W.heap.size ∧ ∀ i, i < len → ∃ cs' y, cs'.length = k ∧ (∀ j u, cs'[j]? = some u → W.cell? ⟨b, o + i * k + j, none⟩ = some u) ∧ DataW.trod enc Tryz.prog W bs (fun _ => true) true n e cs' = some y) := by
  rcases DataW.trod_slice ht h with ⟨rfl, _⟩ | ⟨a, len, cap, elems, rest, n, hf, rfl, _, _, hl, hm, hlen, hel, _, _⟩
  · cases fuel with
    | zero => simp [DataW.trod] at h
    | succ n => exact ⟨none, 0, 0, n, rfl, rfl, by omega, fun h => by omega⟩
  · unfold maxLen at hm
    refine ⟨some a, len, cap, n, hf, rfl, by omega, fun h0 => ?_⟩
    have key : ∀ i, i < len → ∃ cs' y, cs'.length = k ∧ (∀ j u, cs'[j]? = some u → W.cell? (a.add (i * k + j)) = some u) ∧ DataW.trod enc Tryz.prog W bs (fun _ => true) true n e cs' = some y := by
      intro i hi
      have h1 := hel i hi
      rw [hk, List.getElem?_eq_getElem (by omega), Option.bind_eq_some_iff] at h1
      obtain ⟨cs', hc, ht'⟩ := h1
      obtain ⟨_, hlen', hat⟩ := World.cells?_some hc
      refine ⟨cs', _, hlen', fun j u hj => ?_, ht'⟩
      have hjk : j < k := by rw [← hlen']; exact (List.getElem?_eq_some_iff.1 hj).1
      have := hat j hjk
      rw [add_add] at this
      rw [this]
      exact hj
    obtain ⟨c0, y0, l0, g0, _⟩ := key 0 h0
    obtain ⟨u0, hu0⟩ : ∃ u, c0[0]? = some u := ⟨_, List.getElem?_eq_getElem (by omega)⟩
    have hc0 := g0 0 u0 hu0
    simp only [Nat.zero_mul, Nat.add_zero] at hc0
    obtain ⟨b, o, rfl, _⟩ := addr_at hc0 ⟨_, hc0⟩
    refine ⟨b, o, rfl, World.block_lt_of_cell? _ _ hc0, fun i hi => ?_⟩
    obtain ⟨cs', y, l', g', t'⟩ := key i hi
    refine ⟨cs', y, l', fun j u hj => ?_, t'⟩
    obtain ⟨b', o', e, hc⟩ := addr_at (g' j u hj) ⟨_, hc0⟩
    injection e with e1 e2
    subst e1; subst e2
    rw [Nat.add_assoc]
    exact hc
/-- Out of such a row: C holds of each place, the data chosen. -/
theorem row_of {t e : TypeId} {k : Nat} {α : Type} [Inhabited α] {K : α → World → Nat → Nat → Prop} (ht : Tryz.prog.underlying t = some (.slice e)) (hk : Tryz.prog.cellsOf e = k) (hk0 : 0 < k) {bs : Nat} {fuel : Nat} {cs : List Value} {x : DataW H × List MemPlace}
    (h : DataW.trod enc Tryz.prog W bs (fun _ => true) true fuel t cs = some x)
    (each : ∀ n, n < fuel → ∀ cs' y b o, cs'.length = k → (∀ j u, cs'[j]? = some u → W.cell? ⟨b, o + j, none⟩ = some u) → DataW.trod enc Tryz.prog W bs (fun _ => true) true n e cs' = some y → ∃ a, K a W b o) :
    ∃ v n, cs = [v] ∧ ∃ X : Nat → α, RowAt k (fun w b o i => K (X i) w b o) W v n := by
  obtain ⟨A, len, c, n, rfl, rfl, hlc, hc⟩ := trod_row ht hk hk0 h
  by_cases h0 : 0 < len
  · obtain ⟨b, o, rfl, hb, hcell⟩ := hc h0
    obtain ⟨X, hX⟩ := choose_lt (α := α) (n := len) (p := fun i a => K a W b (o + i * k)) (fun i hi => by
      obtain ⟨cs', y, hl, hg, ht'⟩ := hcell i hi
      exact each n (by omega) cs' y b (o + i * k) hl hg ht')
    exact ⟨_, len, rfl, X, _, _, rfl, hlc, fun _ => ⟨b, o, rfl, hb, hX⟩⟩
  · exact ⟨_, len, rfl, fun _ => default, _, _, rfl, hlc, fun h => absurd h h0⟩

theorem str_of_trod {bs fuel : Nat} {cs : List Value} {x : DataW H × List MemPlace} (h : DataW.trod enc Tryz.prog W bs (fun _ => true) true fuel 9 cs = some x) : ∃ s, cs = [.string s] ∧ StrR s := by
  obtain ⟨s, rfl, _, hs⟩ := DataW.trod_string Tryz.underlying9 h
  exact ⟨s, rfl, hs⟩
theorem int_of_trod {bs fuel : Nat} {cs : List Value} {x : DataW H × List MemPlace} (h : DataW.trod enc Tryz.prog W bs (fun _ => true) true fuel 3 cs = some x) : ∃ n, cs = [.int .i64 n] ∧ R64 n := by
  obtain ⟨x0, e0, _, w0⟩ := DataW.trod_int Tryz.underlying3 h
  exact ⟨x0, e0, r64_of_wf w0⟩
theorem i8_of_trod {bs fuel : Nat} {cs : List Value} {x : DataW H × List MemPlace} (h : DataW.trod enc Tryz.prog W bs (fun _ => true) true fuel 44 cs = some x) : ∃ n, cs = [.int .i8 n] ∧ R8 n := by
  obtain ⟨x0, e0, _, w0⟩ := DataW.trod_int Tryz.underlying44 h
  exact ⟨x0, e0, r8_of_wf w0⟩

theorem fn_of_trod {bs fuel : Nat} {cs : List Value} {x : DataW H × List MemPlace} (h : DataW.trod enc Tryz.prog W bs (fun _ => true) true fuel 81 cs = some x) (hl : cs.length = 6) : ∃ f, FnR f ∧ cs = fnC f := by
  obtain ⟨xs, n', _, hx, _, hxl, hg⟩ := DataW.trod_struct Tryz.underlying81 h
  match cs, hl with
  | [c0, c1, c2, c3, c4, c5], _ =>
    have h0 := (hg 0 _ rfl).trans (List.getElem?_eq_getElem (by rw [hxl]; decide))
    have h1 := (hg 1 _ rfl).trans (List.getElem?_eq_getElem (by rw [hxl]; decide))
    have ha := (hg 2 _ rfl).trans (List.getElem?_eq_getElem (by rw [hxl]; decide))
    have h5 := (hg 3 _ rfl).trans (List.getElem?_eq_getElem (by rw [hxl]; decide))
    obtain ⟨s, e0, w0⟩ := str_of_trod h0
    obtain ⟨x1, e1, w1⟩ := int_of_trod h1
    obtain ⟨x5, e5, w5⟩ := int_of_trod h5
    have hC1 : Tryz.prog.cellsOf 3 = 1 := by kernel_rfl
    have hC2 : Tryz.prog.cellsOf 9 = 1 := by kernel_rfl
    have hC3 : Tryz.prog.cellsOf 45 = 3 := by kernel_rfl
    simp [hC1, hC2, hC3] at e0 e1 ha e5
    obtain ⟨y0, y1, y2, n, _, t0, t1, t2⟩ := trod_array3 Tryz.underlying45 hC1 ha
    obtain ⟨x2, e2, w2⟩ := int_of_trod t0
    obtain ⟨x3, e3, w3⟩ := int_of_trod t1
    obtain ⟨x4, e4, w4⟩ := int_of_trod t2
    simp at e2 e3 e4
    subst e0 e1 e2 e3 e4 e5
    exact ⟨⟨s, x1, x2, x3, x4, x5⟩, ⟨w0, w1, w2, w3, w4, w5⟩, rfl⟩

theorem sx_of_trod {bs : Nat} : ∀ (fuel : Nat) (cs : List Value) (x : DataW H × List MemPlace), DataW.trod enc Tryz.prog W bs (fun _ => true) true fuel 53 cs = some x → cs.length = 3 → ∃ sx k t l, cs = [k, t, l] ∧ SxIs W sx k t l := by
  intro fuel
  induction fuel using Nat.strongRecOn with
  | ind fuel ih =>
    intro cs x h hl
    obtain ⟨xs, n', hf, hx, _, hxl, hg⟩ := DataW.trod_struct Tryz.underlying53 h
    match cs, hl with
    | [c0, c1, c2], _ =>
      have h0 := (hg 0 _ rfl).trans (List.getElem?_eq_getElem (by rw [hxl]; decide))
      have h1 := (hg 1 _ rfl).trans (List.getElem?_eq_getElem (by rw [hxl]; decide))
      have h2 := (hg 2 _ rfl).trans (List.getElem?_eq_getElem (by rw [hxl]; decide))
      obtain ⟨k, e0, w0⟩ := i8_of_trod h0
      obtain ⟨t, e1, w1⟩ := str_of_trod h1
      have hC1 : Tryz.prog.cellsOf 44 = 1 := by kernel_rfl
      have hC2 : Tryz.prog.cellsOf 9 = 1 := by kernel_rfl
      have hC3 : Tryz.prog.cellsOf 51 = 1 := by kernel_rfl
      have hC4 : Tryz.prog.cellsOf 53 = 3 := by kernel_rfl
      simp [hC1, hC2, hC3] at e0 e1 h2
      obtain ⟨v, n, e2, X, hX⟩ := row_of (α := Sx) (K := fun a w b o => ∃ k' t' l', w.cell? ⟨b, o, none⟩ = some k' ∧ w.cell? ⟨b, o + 1, none⟩ = some t' ∧ w.cell? ⟨b, o + 2, none⟩ = some l' ∧ SxIs w a k' t' l')
        Tryz.underlying51 hC4 (by omega) h2 (fun m hm cs' y b o hlen hcell htr => by
          obtain ⟨sx, k, t, l, rfl, hs⟩ := ih m (by omega) cs' y htr hlen
          exact ⟨sx, k, t, l, hcell 0 _ rfl, hcell 1 _ rfl, hcell 2 _ rfl, hs⟩)
      simp at e2
      subst e0 e1 e2
      exact ⟨.mk k t n X, _, _, _, rfl, SxIs.mk w0 w1 hX⟩

theorem pms_of_trod {bs fuel : Nat} {cs : List Value} {x : DataW H × List MemPlace} (h : DataW.trod enc Tryz.prog W bs (fun _ => true) true fuel 50 cs = some x) : ∃ v n Q, cs = [v] ∧ PmsAt W v n Q := by
  have hC : Tryz.prog.cellsOf 133 = 2 := by kernel_rfl
  obtain ⟨v, n, e, X, hX⟩ := row_of (α := Pm) (K := fun a w b o => (w.cell? ⟨b, o, none⟩ = some (.string a.name) ∧ w.cell? ⟨b, o + 1, none⟩ = some (.int .i64 a.sort)) ∧ StrR a.name ∧ R64 a.sort)
    Tryz.underlying50 hC (by omega) h (fun m hm cs' y b o hlen hcell htr => by
      obtain ⟨xs, n', hf, hx, _, hxl, hg⟩ := DataW.trod_struct Tryz.underlying133 htr
      match cs', hlen with
      | [c0, c1], _ =>
        have h0 := (hg 0 _ rfl).trans (List.getElem?_eq_getElem (by rw [hxl]; decide))
        have h1 := (hg 1 _ rfl).trans (List.getElem?_eq_getElem (by rw [hxl]; decide))
        obtain ⟨s, e0, w0⟩ := str_of_trod h0
        obtain ⟨k, e1, w1⟩ := int_of_trod h1
        have hC1 : Tryz.prog.cellsOf 3 = 1 := by kernel_rfl
        have hC2 : Tryz.prog.cellsOf 9 = 1 := by kernel_rfl
        simp [hC1, hC2] at e0 e1
        subst e0 e1
        exact ⟨⟨s, k⟩, ⟨hcell 0 _ rfl, hcell 1 _ rfl⟩, w0, w1⟩)
  exact ⟨v, n, X, e, hX⟩

theorem mc_of_trod {bs fuel : Nat} {cs : List Value} {x : DataW H × List MemPlace} (h : DataW.trod enc Tryz.prog W bs (fun _ => true) true fuel 55 cs = some x) (hl : cs.length = 6) : ∃ m v0 v1 v2 v3 v4 v5, cs = [v0, v1, v2, v3, v4, v5] ∧ McIs W m v0 v1 v2 v3 v4 v5 := by
  obtain ⟨xs, n', _, hx, _, hxl, hg⟩ := DataW.trod_struct Tryz.underlying55 h
  match cs, hl with
  | [c0, c1, c2, c3, c4, c5], _ =>
    have h0 := (hg 0 _ rfl).trans (List.getElem?_eq_getElem (by rw [hxl]; decide))
    have h1 := (hg 1 _ rfl).trans (List.getElem?_eq_getElem (by rw [hxl]; decide))
    have h2 := (hg 2 _ rfl).trans (List.getElem?_eq_getElem (by rw [hxl]; decide))
    have h3 := (hg 3 _ rfl).trans (List.getElem?_eq_getElem (by rw [hxl]; decide))
    obtain ⟨s, e0, w0⟩ := str_of_trod h0
    obtain ⟨pv, np, ps, e1, hp⟩ := pms_of_trod h1
    obtain ⟨r, e2, w2⟩ := int_of_trod h2
    have hC1 : Tryz.prog.cellsOf 3 = 1 := by kernel_rfl
    have hC2 : Tryz.prog.cellsOf 9 = 1 := by kernel_rfl
    have hC3 : Tryz.prog.cellsOf 50 = 1 := by kernel_rfl
    have hC4 : Tryz.prog.cellsOf 53 = 3 := by kernel_rfl
    simp [hC1, hC2, hC3, hC4] at e0 e1 e2 h3
    obtain ⟨sx, k, t, l, e3, hs⟩ := sx_of_trod _ _ _ h3 rfl
    simp at e3
    obtain ⟨rfl, rfl, rfl⟩ := e3
    subst e0 e1 e2
    exact ⟨⟨s, np, ps, r, sx⟩, _, _, _, _, _, _, rfl, rfl, w0, hp, rfl, w2, hs⟩

theorem open_sig (hv : Value.okWide Tryz.prog W .any base 26 v) (h : DataW.Trod enc Tryz.prog W 0 (fun _ => true) true 26 v d p) : ∃ s f m g, v = .agg #[s, f, m] ∧ SgAt W s f m g := by
  obtain ⟨cs, rfl, hsz⟩ := okWide_struct Tryz.underlying26 hv
  have hC : Tryz.prog.cellsOf 26 = 3 := by kernel_rfl
  rw [hC] at hsz
  obtain ⟨l⟩ := cs
  match l, hsz with
  | [c0, c1, c2], _ =>
    obtain ⟨fuel, hf⟩ := h
    obtain ⟨xs, n', _, hx, _, hxl, hg⟩ := DataW.trod_struct Tryz.underlying26 hf
    have h0 := (hg 0 _ rfl).trans (List.getElem?_eq_getElem (by rw [hxl]; decide))
    have h1 := (hg 1 _ rfl).trans (List.getElem?_eq_getElem (by rw [hxl]; decide))
    have h2 := (hg 2 _ rfl).trans (List.getElem?_eq_getElem (by rw [hxl]; decide))
    have hC1 : Tryz.prog.cellsOf 22 = 1 := by kernel_rfl
    have hC2 : Tryz.prog.cellsOf 23 = 1 := by kernel_rfl
    have hC3 : Tryz.prog.cellsOf 24 = 1 := by kernel_rfl
    have hCs : Tryz.prog.cellsOf 9 = 1 := by kernel_rfl
    have hCf : Tryz.prog.cellsOf 81 = 6 := by kernel_rfl
    have hCm : Tryz.prog.cellsOf 55 = 6 := by kernel_rfl
    simp [hC1, hC2, hC3, Value.cells] at h0 h1 h2
    obtain ⟨s, ns, e0, S, hS⟩ := row_of (α := ByteArray) (K := fun a w b o => w.cell? ⟨b, o, none⟩ = some (.string a) ∧ StrR a) Tryz.underlying22 hCs (by omega) h0 (fun m hm cs' y b o hlen hcell htr => by
      obtain ⟨s, rfl, hs⟩ := str_of_trod htr
      exact ⟨s, hcell 0 _ rfl, hs⟩)
    obtain ⟨f, nf, e1, F, hF⟩ := row_of (α := Fn) (K := fun a w b o => FnLies w b o a ∧ FnR a) Tryz.underlying23 hCf (by omega) h1 (fun m hm cs' y b o hlen hcell htr => by
      obtain ⟨f, hf, rfl⟩ := fn_of_trod htr hlen
      exact ⟨f, ⟨hcell 0 _ rfl, hcell 1 _ rfl, hcell 2 _ rfl, hcell 3 _ rfl, hcell 4 _ rfl, hcell 5 _ rfl⟩, hf⟩)
    obtain ⟨m, nm, e2, M, hM⟩ := row_of (α := Mc) (K := fun a w b o => ∃ v0 v1 v2 v3 v4 v5, (w.cell? ⟨b, o, none⟩ = some v0 ∧ w.cell? ⟨b, o + 1, none⟩ = some v1 ∧ w.cell? ⟨b, o + 2, none⟩ = some v2 ∧ w.cell? ⟨b, o + 3, none⟩ = some v3 ∧ w.cell? ⟨b, o + 4, none⟩ = some v4 ∧ w.cell? ⟨b, o + 5, none⟩ = some v5) ∧ McIs w a v0 v1 v2 v3 v4 v5)
      Tryz.underlying24 hCm (by omega) h2 (fun m hm cs' y b o hlen hcell htr => by
        obtain ⟨mc, v0, v1, v2, v3, v4, v5, rfl, hm⟩ := mc_of_trod htr hlen
        exact ⟨mc, v0, v1, v2, v3, v4, v5, ⟨hcell 0 _ rfl, hcell 1 _ rfl, hcell 2 _ rfl, hcell 3 _ rfl, hcell 4 _ rfl, hcell 5 _ rfl⟩, hm⟩)
    simp at e0 e1 e2
    subst e0 e1 e2
    exact ⟨_, _, _, ⟨ns, S, nf, F, nm, M⟩, rfl, hS, hF, hM⟩

theorem open_str (hv : Value.okWide Tryz.prog W .any base 9 v) (h : DataW.Trod enc Tryz.prog W 0 (fun _ => true) true 9 v d p) : ∃ s, v = .string s ∧ StrR s := by
  obtain ⟨s, rfl, _, _, hs⟩ := open_string Tryz.underlying9 hv h
  exact ⟨s, rfl, hs⟩
theorem open_fun (hv : Value.okWide Tryz.prog W .any base 81 v) (h : DataW.Trod enc Tryz.prog W 0 (fun _ => true) true 81 v d p) : ∃ f, v = fnV f ∧ FnR f := by
  obtain ⟨cs, rfl, hsz⟩ := okWide_struct Tryz.underlying81 hv
  have hC : Tryz.prog.cellsOf 81 = 6 := by kernel_rfl
  rw [hC] at hsz
  obtain ⟨fuel, hf⟩ := h
  obtain ⟨e, he, hcs⟩ := fn_of_trod hf (by simpa [Value.cells] using hsz)
  refine ⟨e, ?_, he⟩
  have : cs = (fnC e).toArray := by rw [← hcs]; simp [Value.cells]
  rw [this]; rfl
theorem open_i8 (hv : Value.okWide Tryz.prog W .any base 44 v) (h : DataW.Trod enc Tryz.prog W 0 (fun _ => true) true 44 v d p) : ∃ x, v = .int .i8 x ∧ R8 x := by
  obtain ⟨x, rfl, _, _, wx⟩ := open_int Tryz.underlying44 hv h
  exact ⟨x, rfl, r8_of_wf wx⟩
end
end Go.Proofs.YtecmoahadckomaaGreat

namespace Go.Proofs.YtecmoahadckomaaGreat
open Go.RowKit Go.ChangeShapes Go.WideShapes Go.Deep Go.ChangeMaps
set_option maxRecDepth 100000
instance : Inhabited Rw := ⟨⟨0, 0, 0, 0⟩⟩
instance : Inhabited Fv := ⟨⟨0, fun _ => ⟨0, 0, 0, 0⟩, 0⟩⟩

section
variable {H : Type} {enc : TypeId × Value → H} {W : World} {base : Nat} {d : DataW H} {p : List MemPlace} {v : Value}

theorem ints_of_trod {bs fuel : Nat} {cs : List Value} {x : DataW H × List MemPlace} (h : DataW.trod enc Tryz.prog W bs (fun _ => true) true fuel 27 cs = some x) : ∃ v n f, cs = [v] ∧ IntsAt W v n f := by
  have hC : Tryz.prog.cellsOf 3 = 1 := by kernel_rfl
  obtain ⟨v, n, e, X, hX⟩ := row_of (α := Int) (K := fun a w b o => w.cell? ⟨b, o, none⟩ = some (.int .i64 a) ∧ R64 a) Tryz.underlying27 hC (by omega) h (fun m hm cs' y b o hlen hcell htr => by
    obtain ⟨k, rfl, w0⟩ := int_of_trod htr
    exact ⟨k, hcell 0 _ rfl, w0⟩)
  refine ⟨v, n, X, e, ?_⟩
  obtain ⟨A, c, rfl, hlc, hcs⟩ := hX
  refine ⟨A, c, rfl, by omega, fun i hi => ?_, fun h0 => ?_⟩
  · obtain ⟨b, o, _, _, hc⟩ := hcs (by omega)
    exact (hc i hi).2
  · obtain ⟨b, o, hA, hb, hc⟩ := hcs h0
    refine ⟨b, o, hA, hb, fun i hi => ?_⟩
    have := (hc i hi).1
    rw [Nat.mul_one] at this
    exact this
theorem rws_of_trod {bs fuel : Nat} {cs : List Value} {x : DataW H × List MemPlace} (h : DataW.trod enc Tryz.prog W bs (fun _ => true) true fuel 56 cs = some x) : ∃ v n R, cs = [v] ∧ RwsAt W v n R := by
  have hC : Tryz.prog.cellsOf 85 = 4 := by kernel_rfl
  obtain ⟨v, n, e, X, hX⟩ := row_of (α := Rw) (K := fun a w b o => RwLies w b o a ∧ RwR a) Tryz.underlying56 hC (by omega) h (fun m hm cs' y b o hlen hcell htr => by
    obtain ⟨xs, n', hf, hx, _, hxl, hg⟩ := DataW.trod_struct Tryz.underlying85 htr
    match cs', hlen with
    | [c0, c1, c2, c3], _ =>
      have ha := (hg 0 _ rfl).trans (List.getElem?_eq_getElem (by rw [hxl]; decide))
      have h5 := (hg 1 _ rfl).trans (List.getElem?_eq_getElem (by rw [hxl]; decide))
      obtain ⟨x5, e5, w5⟩ := int_of_trod h5
      have hC1 : Tryz.prog.cellsOf 3 = 1 := by kernel_rfl
      have hC3 : Tryz.prog.cellsOf 45 = 3 := by kernel_rfl
      simp [hC1, hC3] at ha e5
      obtain ⟨y0, y1, y2, n, _, t0, t1, t2⟩ := trod_array3 Tryz.underlying45 hC1 ha
      obtain ⟨x2, e2, w2⟩ := int_of_trod t0
      obtain ⟨x3, e3, w3⟩ := int_of_trod t1
      obtain ⟨x4, e4, w4⟩ := int_of_trod t2
      simp at e2 e3 e4
      subst e2 e3 e4 e5
      exact ⟨⟨x2, x3, x4, x5⟩, ⟨hcell 0 _ rfl, hcell 1 _ rfl, hcell 2 _ rfl, hcell 3 _ rfl⟩, ⟨w2, w3, w4, w5⟩⟩)
  exact ⟨v, n, X, e, hX⟩
theorem fvs_of_trod {bs fuel : Nat} {cs : List Value} {x : DataW H × List MemPlace} (h : DataW.trod enc Tryz.prog W bs (fun _ => true) true fuel 28 cs = some x) : ∃ v n F, cs = [v] ∧ FvsAt W v n F := by
  have hC : Tryz.prog.cellsOf 58 = 2 := by kernel_rfl
  obtain ⟨v, n, e, X, hX⟩ := row_of (α := Fv) (K := fun a w b o => ∃ v0 v1, (w.cell? ⟨b, o, none⟩ = some v0 ∧ w.cell? ⟨b, o + 1, none⟩ = some v1) ∧ FvIs w a v0 v1) Tryz.underlying28 hC (by omega) h (fun m hm cs' y b o hlen hcell htr => by
    obtain ⟨xs, n', hf, hx, _, hxl, hg⟩ := DataW.trod_struct Tryz.underlying58 htr
    match cs', hlen with
    | [c0, c1], _ =>
      have h0 := (hg 0 _ rfl).trans (List.getElem?_eq_getElem (by rw [hxl]; decide))
      have h1 := (hg 1 _ rfl).trans (List.getElem?_eq_getElem (by rw [hxl]; decide))
      have hC1 : Tryz.prog.cellsOf 3 = 1 := by kernel_rfl
      have hC2 : Tryz.prog.cellsOf 56 = 1 := by kernel_rfl
      obtain ⟨k, e1, w1⟩ := int_of_trod h1
      simp [hC1, hC2] at h0 e1
      obtain ⟨rv, nr, R, e0, hR⟩ := rws_of_trod h0
      simp at e0
      subst e0 e1
      exact ⟨⟨nr, R, k⟩, _, _, ⟨hcell 0 _ rfl, hcell 1 _ rfl⟩, hR, rfl, w1⟩)
  exact ⟨v, n, X, e, hX⟩
theorem open_world (hv : Value.okWide Tryz.prog W .any base 30 v) (h : DataW.Trod enc Tryz.prog W 0 (fun _ => true) true 30 v d p) : ∃ z f X, v = .agg #[z, f] ∧ WdAt W z f X := by
  obtain ⟨cs, rfl, hsz⟩ := okWide_struct Tryz.underlying30 hv
  have hC : Tryz.prog.cellsOf 30 = 2 := by kernel_rfl
  rw [hC] at hsz
  obtain ⟨l⟩ := cs
  match l, hsz with
  | [c0, c1], _ =>
    obtain ⟨fuel, hf⟩ := h
    obtain ⟨xs, n', _, hx, _, hxl, hg⟩ := DataW.trod_struct Tryz.underlying30 hf
    have h0 := (hg 0 _ rfl).trans (List.getElem?_eq_getElem (by rw [hxl]; decide))
    have h1 := (hg 1 _ rfl).trans (List.getElem?_eq_getElem (by rw [hxl]; decide))
    have hC1 : Tryz.prog.cellsOf 27 = 1 := by kernel_rfl
    have hC2 : Tryz.prog.cellsOf 28 = 1 := by kernel_rfl
    simp [hC1, hC2, Value.cells] at h0 h1
    obtain ⟨zv, nz, Z, e0, hZ⟩ := ints_of_trod h0
    obtain ⟨fv, nf, F, e1, hF⟩ := fvs_of_trod h1
    simp at e0 e1
    subst e0 e1
    exact ⟨_, _, ⟨nz, Z, nf, F⟩, rfl, hZ, hF⟩
end
end Go.Proofs.YtecmoahadckomaaGreat
