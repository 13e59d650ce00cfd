/- term.Tree, term.Depth: what they hand back. -/
import Derived.Test.YtoppfcfalciibaaGath
namespace Go.Proofs.Ytoppfcfalciibaa
open Go.RowKit Go.Shelf
set_option maxRecDepth 100000

theorem NdsAt.tab {w : World} {v : Value} {m : Nat} {N : Nat → Nd} (h : NdsAt w v m N) {id : Nat} (hid : id < m) : ∃ b o c, v = .slice (some ⟨b, o, none⟩) m c ∧ b < w.heap.size ∧ ∀ i, i < m → NdIn w b (o + i * 8) (N i) := by
  obtain ⟨A, c, rfl, _, _, h⟩ := h
  obtain ⟨b, o, rfl, hb, hn⟩ := h (by omega)
  exact ⟨b, o, c, rfl, hb, hn⟩

theorem Tree_any (v : Value) (m id : Nat) (N : Nat → Nd) (w : World) (ht : NdsAt w v m N) (hch : CheckP m N) (hid : id < m) (hm : m ≤ 1000000) :
    Calls Try.prog 20 #[.agg #[v], .int .i64 id] w fun e w' => e = .returned (.int .i64 (gth (fun s x => s + x) N id)) ∧ Below w.heap.size w w' := by
  obtain ⟨b, o, c, rfl, hb, hn⟩ := ht.tab hid
  go_enter Try.func20, Try.ntmps20
  go_wp2_with fail
  have hbx := (Bx.nil w).one (.slice (some ⟨b, o, none⟩) m c) 24
  refine (callsIn_wide.1 (gathered_in (fun s x => s + x) opSum 51 (enters_of Try.func51 (by kernel_rfl) rfl) (fun s x w h1 h2 h3 h4 => put_sum s x w h1 h2 h3 h4) w.heap.size b o m c id N _ hbx.cells.1.1 (fun i hi => (hn i hi).keep fun j => hbx.bel.cell (p := ⟨b, j, none⟩) hb) hch hid hm hbx.cells.1.2 (by simp; omega))).mono ?_
  rintro e w' ⟨rfl, hb'⟩
  go_wp2
  go_ret
  exact ⟨rfl, hbx.bel.trans (hb'.mono hbx.bel.size)⟩
theorem Depth_any (v : Value) (m id : Nat) (N : Nat → Nd) (w : World) (ht : NdsAt w v m N) (hch : CheckP m N) (hid : id < m) (hm : m ≤ 1000000) :
    Calls Try.prog 21 #[.agg #[v], .int .i64 id] w fun e w' => e = .returned (.int .i64 (gth (fun s x => max s x) N id)) ∧ Below w.heap.size w w' := by
  obtain ⟨b, o, c, rfl, hb, hn⟩ := ht.tab hid
  go_enter Try.func21, Try.ntmps21
  go_wp2_with fail
  have hbx := (Bx.nil w).one (.slice (some ⟨b, o, none⟩) m c) 24
  refine (callsIn_wide.1 (gathered_in (fun s x => max s x) opMax 52 (enters_of Try.func52 (by kernel_rfl) rfl) (fun s x w _ _ _ _ => put_max s x w) w.heap.size b o m c id N _ hbx.cells.1.1 (fun i hi => (hn i hi).keep fun j => hbx.bel.cell (p := ⟨b, j, none⟩) hb) hch hid hm hbx.cells.1.2 (by simp; omega))).mono ?_
  rintro e w' ⟨rfl, hb'⟩
  go_wp2
  go_ret
  exact ⟨rfl, hbx.bel.trans (hb'.mono hbx.bel.size)⟩
end Go.Proofs.Ytoppfcfalciibaa
