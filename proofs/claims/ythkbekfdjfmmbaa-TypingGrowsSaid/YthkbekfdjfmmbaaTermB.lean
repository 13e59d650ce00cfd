/- Results that lie in a cell: tables; term.New. -/
import Derived.Test.YthkbekfdjfmmbaaTermA
import Derived.Test.YthkbekfdjfmmbaaStands
import Derived.Laws.ResultCell
namespace Go.Proofs.Ythkbekfdjfmmbaa
open Go.RowKit Go.Maps

def ndT : Nd := ⟨0, 0, 0, 0, 0, 0, 0, 0⟩
def ndZ : Nd := ⟨10, 0, 0, 0, 0, 1, 0, 0⟩
def newN (i : Nat) : Nd := if i = 0 then ndT else ndZ

theorem run_loadTab (w : World) (g : Nat) (v : Value) (hc : w.cell? ⟨g, 0, none⟩ = some v) : (loadVar 60 ⟨g, 0, none⟩).run Try.prog w = .ok (.agg #[v]) w := by
  go_simp
theorem results_tab {fn : Func} {p : Tmp} (h : fn.results = #[.cell p 60]) (tmps : Array Value) (w : World) (g : Nat) (v : Value)
    (hp : tmps.getD p undef = .pointer (some ⟨g, 0, none⟩)) (hc : w.cell? ⟨g, 0, none⟩ = some v) : (results fn tmps).run Try.prog w = .ok (.agg #[v]) w := by
  have hp' : tmps[p]?.getD undef = .pointer (some ⟨g, 0, none⟩) := by simpa using hp
  simp [results, h, hp', asAddr, run_loadTab w g v hc]
theorem results_tab1 {fn : Func} {p u : Tmp} (h : fn.results = #[.cell p 60, .tmp u]) (tmps : Array Value) (w : World) (g : Nat) (v : Value)
    (hp : tmps.getD p undef = .pointer (some ⟨g, 0, none⟩)) (hc : w.cell? ⟨g, 0, none⟩ = some v) : (results fn tmps).run Try.prog w = .ok (.tuple #[.agg #[v], tmps.getD u undef]) w := by
  have hp' : tmps[p]?.getD undef = .pointer (some ⟨g, 0, none⟩) := by simpa using hp
  simp [results, h, hp', asAddr, run_loadTab w g v hc, Result.andThen]
theorem results_tab2 {fn : Func} {p u x : Tmp} (h : fn.results = #[.cell p 60, .tmp u, .tmp x]) (tmps : Array Value) (w : World) (g : Nat) (v : Value)
    (hp : tmps.getD p undef = .pointer (some ⟨g, 0, none⟩)) (hc : w.cell? ⟨g, 0, none⟩ = some v) : (results fn tmps).run Try.prog w = .ok (.tuple #[.agg #[v], tmps.getD u undef, tmps.getD x undef]) w := by
  have hp' : tmps[p]?.getD undef = .pointer (some ⟨g, 0, none⟩) := by simpa using hp
  simp [results, h, hp', asAddr, run_loadTab w g v hc, Result.andThen]

theorem run_tabField (w : World) (A : Option Addr) (n c : Nat) : (Instr.field 60 (.agg #[.slice A n c]) 0).run Try.prog w = .ok (.slice A n c) w := by kernel_rfl
theorem new_cells (w : World) (t : TypeId) : NdsAt (w.alloc (.cells #[.int .i8 0, .int .i8 0, .int .i64 0, .int .i64 0, .int .i64 0, .int .i64 0, .int .i64 0, .int .i64 0, .int .i8 10, .int .i8 0, .int .i64 0, .int .i64 0, .int .i64 0, .int .i64 1, .int .i64 0, .int .i64 0] t)) (.slice (some ⟨w.heap.size, 0, none⟩) 2 2) 2 newN := by
  refine ⟨_, _, rfl, by omega, fun i hi => ?_, fun _ => ⟨_, 0, rfl, by simp, fun i hi => ?_⟩⟩
  · have : i = 0 ∨ i = 1 := by omega
    rcases this with rfl | rfl <;> (refine ⟨?_, ?_, ?_, ?_, ?_, ?_, ?_, ?_⟩ <;> exact ⟨by decide, by decide⟩)
  · have : i = 0 ∨ i = 1 := by omega
    rcases this with rfl | rfl <;> (refine ⟨?_, ?_, ?_, ?_, ?_, ?_, ?_, ?_⟩ <;> simp [newN, ndT, ndZ])

theorem New_any (w : World) : Calls Try.prog 78 #[] w fun e w' => ∃ v, e = .returned (.agg #[v]) ∧ NdsAt w' v 2 newN ∧ Below w.heap.size w w' := by
  go_enter Try.func78, Try.ntmps78
  go_wp2
  refine bodyPost_ret (results_tab rfl _ _ w.heap.size (.slice (some ⟨w.heap.size + 1, 0, none⟩) 2 2) rfl (by simp)) rfl ⟨_, rfl, ?_, ((Below.refl _ _).alloc (Nat.le_refl _) _).alloc (by simp) _⟩
  have := new_cells (w.alloc (.cells #[.slice (some ⟨w.heap.size + 1, 0, none⟩) 2 2] 60)) 62
  simpa using this
end Go.Proofs.Ythkbekfdjfmmbaa
