/- term.args and the two ways of putting together: what they hand back. -/
import Derived.Test.YtoppfcfalciibaaArgsI
import Derived.Test.YtoppfcfalciibaaNode
namespace Go.Proofs.Ytoppfcfalciibaa
open Go.RowKit Go.Shelf
set_option maxRecDepth 100000

theorem args_w (p : Option Addr) (i : Int) (w : World) : Calls Try.prog 53 #[.pointer p, .int .i64 i] w fun e w' =>
    e = .returned (.func (.func 81) #[] #[.pointer (some ⟨w.heap.size, 0, none⟩), .pointer (some ⟨w.heap.size + 1, 0, none⟩)]) ∧ w' = (w.alloc (.cells #[.pointer p] 86)).alloc (.cells #[.int .i64 i] 3) := by
  go_enter Try.func53, Try.ntmps53
  go_wp2
  go_ret
  exact ⟨rfl, rfl⟩
theorem put_sum (s x : Int) (w : World) (h1 : 0 ≤ s) (h2 : s ≤ 4294967296) (h3 : 0 ≤ x) (h4 : x ≤ 1073741824) : Calls Try.prog 51 #[.int .i64 s, .int .i64 x] w fun e w' => e = .returned (.int .i64 (s + x)) ∧ w' = w := by
  have hw : IntKind.i64.wrap (s + x) = s + x := by rw [IntKind.wrap_i64]; omega
  go_enter Try.func51, Try.ntmps51
  go_wp2
  go_ret
  exact ⟨by first | rfl | rw [hw], rfl⟩
theorem put_max (s x : Int) (w : World) : Calls Try.prog 52 #[.int .i64 s, .int .i64 x] w fun e w' => e = .returned (.int .i64 (max s x)) ∧ w' = w := by
  go_enter Try.func52, Try.ntmps52
  go_wp2
  · go_ret
    exact ⟨ret_int (Int.max_eq_right (by omega)).symm, rfl⟩
  · go_ret
    exact ⟨ret_int (Int.max_eq_left (by omega)).symm, rfl⟩

theorem grown_drew (w : World) (row : Option Nat) : w.grownBy w.drew row := ⟨rfl, rfl, rfl, Nat.le_refl _, fun _ _ _ => rfl⟩
theorem args_stops (n : Nat) (hn1 : 1 ≤ n) (A₀ B1 B2 Bt n₀ m c i b o : Nat) (N : Nat → Nd) (w : World) (h1 : w.cell? ⟨B1, 0, none⟩ = some (.pointer (some ⟨Bt, 0, none⟩))) (h2 : w.cell? ⟨B2, 0, none⟩ = some (.int .i64 i))
    (ht : w.cell? ⟨Bt, 0, none⟩ = some (.slice (some ⟨b, o, none⟩) m c)) (hnd : NdIn w b (o + i * 8) (N i)) (him : i < m) (hch : CheckP m N) (g1 : B1 < n₀) (g2 : B2 < n₀) (g3 : Bt < n₀) (g4 : b < n₀)
    (d1 : B1 ≠ A₀) (d2 : B2 ≠ A₀) (d3 : Bt ≠ A₀) (d4 : b ≠ A₀) (hn₀ : n₀ ≤ w.heap.size) :
    SeqStopsK Fence.wide n Try.prog 81 #[.pointer (some ⟨B1, 0, none⟩), .pointer (some ⟨B2, 0, none⟩)] (encA (i := i)) (Keep2 A₀ n₀) (fun ys => vals ys = argsN N i) (fun pre => vals pre <+: argsN N i) 3 w :=
  fun l J Jx W hW hJ _ hY h0 => argsI_in n hn1 l A₀ B1 B2 Bt n₀ m c i b o N J Jx hY W ((hW.cell (p := ⟨B1, 0, none⟩) (Nat.lt_of_lt_of_le g1 hn₀)).trans h1) ((hW.cell (p := ⟨B2, 0, none⟩) (Nat.lt_of_lt_of_le g2 hn₀)).trans h2)
    ((hW.cell (p := ⟨Bt, 0, none⟩) (Nat.lt_of_lt_of_le g3 hn₀)).trans ht) (hnd.keep fun j => hW.cell (p := ⟨b, j, none⟩) (Nat.lt_of_lt_of_le g4 hn₀)) him hch g1 g2 g3 g4 d1 d2 d3 d4
    (fun s A h => hJ s A A.drew none h (grown_drew A none) (fun r e => by cases e)) h0

/-- Marks of loops that are over: shut one by one at the end. -/
def markD (D : Nat) : Deferred := { target := .collected D, args := #[] }
structure Marks (B : Nat) (w : World) (Ds : List Nat) : Prop where
  nd : Ds.Nodup
  at_ : ∀ D ∈ Ds, B ≤ D ∧ w.heap[D]? = some (.deferred (some []))
theorem Marks.nil (B : Nat) (w : World) : Marks B w [] := ⟨List.nodup_nil, fun _ h => by cases h⟩
theorem Marks.lt {B : Nat} {w : World} {Ds : List Nat} (h : Marks B w Ds) {D : Nat} (hD : D ∈ Ds) : D < w.heap.size := (Array.getElem?_eq_some_iff.1 (h.at_ D hD).2).1
theorem Marks.keep {B : Nat} {w w' : World} {Ds : List Nat} (h : Marks B w Ds) (hk : ∀ D ∈ Ds, w'.heap[D]? = w.heap[D]?) : Marks B w' Ds :=
  ⟨h.nd, fun D hD => ⟨(h.at_ D hD).1, (hk D hD).trans (h.at_ D hD).2⟩⟩
theorem Marks.cons {B : Nat} {w : World} {Ds : List Nat} (h : Marks B w Ds) {D : Nat} (h1 : B ≤ D) (h2 : w.heap[D]? = some (.deferred (some []))) (h3 : D ∉ Ds) : Marks B w (D :: Ds) :=
  ⟨List.nodup_cons.2 ⟨h3, h.nd⟩, fun D' hD' => by
    rcases List.mem_cons.1 hD' with rfl | hD'
    · exact ⟨h1, h2⟩
    · exact h.at_ D' hD'⟩
theorem leaves_marks {F : Fence} {n : Nat} {P : Program} {fn : Func} {tmps : Array Value} {R : Ending → World → Prop} {B : Nat} : ∀ (Ds : List Nat) (w : World), B ≤ w.heap.size → Marks B w Ds →
    (∀ w', Below B w w' → LeavesIn F n P fn tmps R [] .returning w') → LeavesInM F n P fn tmps R (Ds.map markD) .returning w
  | [], w, _, _, h => h w (Below.refl B w)
  | D :: Ds, w, hB, hm, h => by
    have hb : Below B w (w.putObj D (.deferred none)) := (Below.refl B w).grown (grownBy_putObj' w D _) hB (fun k e => by cases e; exact (hm.at_ D (by simp)).1)
    refine ⟨by simp, .inl ⟨D, w.putObj D (.deferred none), rfl, run_takeDeferred (hm.at_ D (by simp)).2, ?_⟩⟩
    refine leaves_marks Ds _ (Nat.le_trans hB hb.size) ⟨(List.nodup_cons.1 hm.nd).2, fun D' hD' => ⟨(hm.at_ D' (by simp [hD'])).1, ?_⟩⟩ fun w' hw' => h w' (hb.trans hw')
    have hne : D' ≠ D := fun e => (List.nodup_cons.1 hm.nd).1 (e ▸ hD')
    have hlt := hm.lt (D := D') (by simp [hD'])
    have hg := grownBy_putObj' w D (.deferred none)
    rw [hg.block D' hlt (by simpa using hne)]
    exact (hm.at_ D' (by simp [hD'])).2
theorem ownFrom_of_below {β : Type} {C : Nat} {I : β → World → Prop} (h : ∀ s W W', I s W → Below C W W' → I s W') (hs : ∀ s W, I s W → C ≤ W.heap.size) : OwnFrom C I := fun s W _ _ hi hg hr =>
  h s W _ hi ((Below.refl C W).grown hg (hs s W hi) (fun k e => (hr k e).1))
end Go.Proofs.Ytoppfcfalciibaa
