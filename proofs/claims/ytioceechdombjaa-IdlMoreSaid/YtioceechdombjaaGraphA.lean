/- graph.weights -/
import Derived.Test.YtioceechdombjaaWords
namespace Go.Proofs.Ytioceechdombjaa
open Go.RowKit
set_option maxHeartbeats 400000 in
theorem weights_any (v : Value) (n : Nat) (E : Nat → Ed) (w : World) (hv : EdsAt w v n E) (hm : n ≤ 1000000) :
    Calls Try.prog 70 #[v] w fun e w' => ∃ u, e = .returned u ∧ IntsAt w' u n (fun i => (E i).wt) ∧ Below w.heap.size w w' := by
  obtain ⟨A, c, rfl, hn, hr, hc⟩ := hv
  have hmk := run_make_row' (P := Try.prog) 27 3 (.int .i64 0) 8 Try.underlying27 info_int rfl .i64 .i64 n (by omega) (by omega)
  have hc' := Lib.hid hc
  have hr' := Lib.hid hr
  clear hc hr
  go_enter Try.func70, Try.ntmps70
  go_wp2
  go_loopw [11] (fun i wr => ∃ k : Nat, k ≤ n ∧ i = .int .i64 k ∧ wr.rowIs w.heap.size 3 n (fun j => if j < k then .int .i64 (E j).wt else .int .i64 0) ∧ Below w.heap.size w wr) (fun i _ => n - (intOf i).toNat)
  case atStart =>
    refine ⟨0, Nat.zero_le _, rfl, ?_, (Below.refl _ _).alloc (Nat.le_refl _) _⟩
    exact (World.rowIs_made w _ n _).congr fun i hi => by simp
  case round =>
    obtain ⟨k, hk, rfl, hrow, hb⟩ := hrel
    have hz := hb.size
    by_cases hlt : k < n
    · obtain ⟨b, o, rfl, hbl, hcs⟩ := hc'.out (by omega)
      obtain ⟨q0, q1, q2⟩ := hcs k hlt
      clear hcs
      have c0 := (hb.cell (p := ⟨b, o + k * 3, none⟩) hbl).trans q0
      have c1 := (hb.cell (p := ⟨b, o + k * 3 + 1, none⟩) hbl).trans q1
      have c2 := (hb.cell (p := ⟨b, o + k * 3 + 2, none⟩) hbl).trans q2
      clear q0 q1 q2
      have c3 := hrow.cell hlt
      simp only [Nat.lt_irrefl, if_false] at c3
      have f3 := hrow.frozen k
      have hl := hrow.lt
      go_wp2
      go_roundw
      case rel =>
        refine ⟨k + 1, by omega, by go_num, ?_, (hb.setCell (p := ⟨w.heap.size, k, none⟩) (Nat.le_refl _) _).alloc (by simp; omega) _⟩
        refine ((hrow.set k _).alloc _).congr fun i hi => ?_
        by_cases h1 : i = k
        · subst h1; simp
        · by_cases h2 : i < k
          · simp [h1, h2, show i < k + 1 by omega]
          · simp [h1, h2, show ¬ i < k + 1 by omega]
      case measure => simp [intOf]; omega
    · go_wp2
      go_ret
      refine ⟨_, rfl, ?_, hb⟩
      exact IntsAt.of_row hrow (Nat.le_refl _) hn (fun i hi => (hr'.out i hi).2.2) (fun i hi => by simp [show i < k by omega]) _
end Go.Proofs.Ytioceechdombjaa
