/- eval's ways: the row itself; eval.nodes. -/
import Derived.Test.YtlhnffmbjejphaaGreatZWayC
namespace Go.Proofs.YtlhnffmbjejphaaGreat
open Go.RowKit
set_option maxRecDepth 100000

theorem way_size : (Tryz.prog.info? 74).map (·.size) = some 14 := by kernel_rfl
def wayZ : Array Value := #[.nilFunc, .nilFunc, .nilFunc, .nilFunc, .nilFunc, .nilFunc, .nilFunc, .nilFunc, .nilFunc, .nilFunc, .nilFunc, .nilFunc, .nilFunc, .nilFunc]
theorem way_one (B : Nat) : (wayA B).all (·.oneCell') = true := by simp [wayA, Value.oneCell']
theorem cellsK.setRow {K : List (Nat × Nat × Value)} {x : World} {g : Nat} {cs : Array Value} (h : cellsK K x) (hK : ∀ a ∈ K, a.1 ≠ g) : cellsK K (x.setRow g cs) := by
  induction K with
  | nil => trivial
  | cons a K ih =>
    obtain ⟨b, o, v⟩ := a
    obtain ⟨⟨h0, h1⟩, h2⟩ := h
    have hne : b ≠ g := hK (b, o, v) (by simp)
    refine ⟨⟨?_, by simpa [World.setRow] using h1⟩, ih h2 fun a ha => hK a (by simp [ha])⟩
    rw [← h0]
    have hh := setRow_other x g b cs hne
    unfold World.cell?
    dsimp only
    rw [hh]
theorem Bx.setRow {w x : World} {K : List (Nat × Nat × Value)} (h : Bx w K x) {g : Nat} (cs : Array Value) (hg : w.heap.size ≤ g) (hK : ∀ a ∈ K, a.1 ≠ g) : Bx w K (x.setRow g cs) := ⟨h.cells.setRow hK, below_setRow h.bel hg cs⟩
/-- What the call of ways has made. -/
def wayX (w : World) (gb : Nat) : World := (((((((((((w.alloc (.cells #[.pointer (some ⟨gb, 0, none⟩)] 75)).alloc (.cells wayZ 74)).alloc (.cells #[.func (.func 52) #[] #[]] 118)).alloc (.cells #[.func (.func 53) #[] #[]] 118)).alloc (.cells #[.func (.func 54) #[] #[]] 118)).alloc (.cells #[.func (.func 55) #[] #[]] 118)).alloc (.cells #[.func (.func 56) #[] #[]] 118)).alloc (.cells #[.func (.func 57) #[] #[]] 118)).alloc (.cells #[.func (.func 58) #[] #[]] 118)).alloc (.cells #[.func (.func 60) #[] #[]] 118)).alloc (.cells #[.func (.func 61) #[] #[]] 118)).alloc (.cells #[.func (.func 62) #[] #[]] 118)
theorem wayX_row (w : World) (gb : Nat) : (wayX w gb).heap[w.heap.size + 1]? = some (.cells wayZ 74 (0, 0)) := by
  unfold wayX
  iterate 10 refine (heap_alloc_old _ _ (by simp; try omega)).trans ?_
  have h := heap_alloc_new (w.alloc (.cells #[.pointer (some ⟨gb, 0, none⟩)] 75)) (.cells wayZ 74)
  rwa [World.size_alloc] at h
def wayK (B gb : Nat) : List (Nat × Nat × Value) := [(B + 11, 0, .func (.func 62) #[] #[]), (B + 10, 0, .func (.func 61) #[] #[]), (B + 9, 0, .func (.func 60) #[] #[]), (B + 8, 0, .func (.func 58) #[] #[]), (B + 7, 0, .func (.func 57) #[] #[]), (B + 6, 0, .func (.func 56) #[] #[]), (B + 5, 0, .func (.func 55) #[] #[]), (B + 4, 0, .func (.func 54) #[] #[]), (B + 3, 0, .func (.func 53) #[] #[]), (B + 2, 0, .func (.func 52) #[] #[]), (B, 0, .pointer (some ⟨gb, 0, none⟩))]
theorem wayX_bx (w : World) (gb : Nat) : Bx w (wayK w.heap.size gb) (wayX w gb) := by
  have h := ((((((((((((((((((((((Bx.nil w).one (.pointer (some ⟨gb, 0, none⟩)) 75).skip (.cells wayZ 74)).one (.func (.func 52) #[] #[]) 118)).one (.func (.func 53) #[] #[]) 118)).one (.func (.func 54) #[] #[]) 118)).one (.func (.func 55) #[] #[]) 118)).one (.func (.func 56) #[] #[]) 118)).one (.func (.func 57) #[] #[]) 118)).one (.func (.func 58) #[] #[]) 118)).one (.func (.func 60) #[] #[]) 118)).one (.func (.func 61) #[] #[]) 118)).one (.func (.func 62) #[] #[]) 118)
  simp only [World.size_alloc] at h
  exact h
theorem wayX_size (w : World) (gb : Nat) : (wayX w gb).heap.size = w.heap.size + 12 := by simp [wayX]
theorem wayK_ne {B gb : Nat} : ∀ a ∈ wayK B gb, a.1 ≠ B + 1 := by
  intro a ha
  simp [wayK] at ha
  rcases ha with rfl | rfl | rfl | rfl | rfl | rfl | rfl | rfl | rfl | rfl | rfl <;> simp
theorem wayK_box {x : World} {B gb : Nat} (h : cellsK (wayK B gb) x) : BoxW x B ∧ x.cell? ⟨B, 0, none⟩ = some (.pointer (some ⟨gb, 0, none⟩)) := by
  obtain ⟨⟨h9, _⟩, ⟨h8, _⟩, ⟨h7, _⟩, ⟨h6, _⟩, ⟨h5, _⟩, ⟨h4, _⟩, ⟨h3, _⟩, ⟨h2, _⟩, ⟨h1, _⟩, ⟨h0, _⟩, ⟨hg, _⟩, _⟩ := h
  refine ⟨fun i hi => ?_, hg⟩
  have : i = 0 ∨ i = 1 ∨ i = 2 ∨ i = 3 ∨ i = 4 ∨ i = 5 ∨ i = 6 ∨ i = 7 ∨ i = 8 ∨ i = 9 := by omega
  rcases this with rfl | rfl | rfl | rfl | rfl | rfl | rfl | rfl | rfl | rfl
  · exact h0
  · exact h1
  · exact h2
  · exact h3
  · exact h4
  · exact h5
  · exact h6
  · exact h7
  · exact h8
  · exact h9
theorem results_way {fn : Func} {p : Tmp} (h : fn.results = #[.cell p 74]) (tmps : Array Value) (w : World) (g : Nat) (cs : Array Value) (hs : 14 = cs.size)
    (hp : tmps.getD p undef = .pointer (some ⟨g, 0, none⟩)) (hc : w.heap[g]? = some (.cells cs 74 (0, 0))) : (results fn tmps).run Tryz.prog w = .ok (.agg cs) w := by
  have hp' : tmps[p]?.getD undef = .pointer (some ⟨g, 0, none⟩) := by simpa using hp
  have hl := run_loadVar_row (P := Tryz.prog) w g 74 74 cs (0, 0) _ hc Tryz.underlying74 rfl (by rw [way_size, hs])
  simp [results, h, hp', asAddr, hl]
set_option maxHeartbeats 4000000 in
theorem ways_any (gb : Nat) (w : World) : Calls Tryz.prog 26 #[.pointer (some ⟨gb, 0, none⟩)] w fun z w' =>
    z = .returned (.agg (wayA w.heap.size)) ∧ Bx w (wayK w.heap.size gb) w' ∧ w.heap.size + 12 ≤ w'.heap.size := by
  have hmf : ∀ (fn : Go.Fn) (first cap : Array Value) (w : World), (Instr.makeFunc fn first cap).run Tryz.prog w = .ok (.func fn first cap) w := fun _ _ _ _ => rfl
  go_enter Tryz.func26, Tryz.ntmps26
  go_wp2_with (first | (go_at_call 51; refine (plain_any _ _).mono ?_; rintro z w' ⟨rfl, rfl⟩) | (refine wpList_store_row rfl 74 (.tmp 2) (.tmp 14) rfl (w.heap.size + 1) (wayA w.heap.size) rfl rfl 74 _ (wayX_row w gb) way_size rfl (way_one _) ?_))
  have hx := (wayX_bx w gb).setRow (wayA w.heap.size) (g := w.heap.size + 1) (by omega) wayK_ne
  refine bodyPost_ret (results_way rfl _ _ (w.heap.size + 1) (wayA w.heap.size) rfl rfl (setRow_heap _ _ _ _ _ _ (wayX_row w gb))) rfl ⟨rfl, hx, ?_⟩
  have := wayX_size w gb
  show w.heap.size + 12 ≤ ((wayX w gb).setRow _ _).heap.size
  simp [World.setRow, this]
end Go.Proofs.YtlhnffmbjejphaaGreat
