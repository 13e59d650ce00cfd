/- Words for memory: a slice value that reads as edges. -/
import Derived.Test.YtioceechdombjaaZIntsToNumW
import Derived.Test.YtioceechdombjaaZBellBellBBellC
namespace Go.Proofs.Ytioceechdombjaa
open Go.RowKit

/-- The slice value v reads, in w, as the n edges E 0 .. -/
def EdsAt (w : World) (v : Value) (n : Nat) (E : Nat → Ed) : Prop :=
  ∃ (A : Option Addr) (c : Nat), v = .slice A n c ∧ n ≤ 9223372036854775807 ∧ (∀ i, i < n → R64 (E i).src ∧ R64 (E i).dst ∧ R64 (E i).wt) ∧
    (0 < n → ∃ b o, A = some ⟨b, o, none⟩ ∧ b < w.heap.size ∧ ∀ i, i < n →
      w.cell? ⟨b, o + i * 3, none⟩ = some (.int .i64 (E i).src) ∧ w.cell? ⟨b, o + i * 3 + 1, none⟩ = some (.int .i64 (E i).dst) ∧ w.cell? ⟨b, o + i * 3 + 2, none⟩ = some (.int .i64 (E i).wt))

section
variable {w w' : World} {v : Value} {n : Nat} {E : Nat → Ed}
theorem EdsAt.keep (h : EdsAt w v n E) (hs : w.heap.size ≤ w'.heap.size) (hk : ∀ p : Addr, p.block < w.heap.size → w'.cell? p = w.cell? p) : EdsAt w' v n E := by
  obtain ⟨A, c, rfl, hn, hr, hc⟩ := h
  refine ⟨A, c, rfl, hn, hr, fun h0 => ?_⟩
  obtain ⟨b, o, rfl, hb, hc⟩ := hc h0
  exact ⟨b, o, rfl, by omega, fun i hi => ⟨(hk _ hb).trans (hc i hi).1, (hk _ hb).trans (hc i hi).2.1, (hk _ hb).trans (hc i hi).2.2⟩⟩
theorem EdsAt.below (h : EdsAt w v n E) (hb : Below w.heap.size w w') : EdsAt w' v n E := h.keep hb.size fun _ hp => hb.cell hp
end
end Go.Proofs.Ytioceechdombjaa

namespace Go.Proofs.Ytioceechdombjaa
open Go.RowKit
set_option maxHeartbeats 400000 in
theorem weights_any (v : Value) (n : Nat) (E : Nat → Ed) (w : World) (hv : EdsAt w v n E) (hm : n ≤ 1000000) :
    Calls Try.prog 70 #[v] w fun e w' => ∃ u, e = .returned u ∧ IntsAt w' u n (fun i => (E i).wt) ∧ Below w.heap.size w w' := by
  obtain ⟨A, c, rfl, hn, hr, hc⟩ := hv
  have hmk := run_make_row' (P := Try.prog) 27 3 (.int .i64 0) 8 Try.underlying27 info_int rfl .i64 .i64 n (by omega) (by omega)
  have hc' := Lib.hid hc
  have hr' := Lib.hid hr
  clear hc hr
  go_enter Try.func70, Try.ntmps70
  go_wp2
  go_loopw [11] (fun i wr => ∃ k : Nat, k ≤ n ∧ i = .int .i64 k ∧ wr.rowIs w.heap.size 3 n (fun j => if j < k then .int .i64 (E j).wt else .int .i64 0) ∧ Below w.heap.size w wr) (fun i _ => n - (intOf i).toNat)
  case atStart =>
    refine ⟨0, Nat.zero_le _, rfl, ?_, (Below.refl _ _).alloc (Nat.le_refl _) _⟩
    exact (World.rowIs_made w _ n _).congr fun i hi => by simp
  case round =>
    obtain ⟨k, hk, rfl, hrow, hb⟩ := hrel
    have hz := hb.size
    by_cases hlt : k < n
    · obtain ⟨b, o, rfl, hbl, hcs⟩ := hc'.out (by omega)
      obtain ⟨q0, q1, q2⟩ := hcs k hlt
      clear hcs
      have c0 := (hb.cell (p := ⟨b, o + k * 3, none⟩) hbl).trans q0
      have c1 := (hb.cell (p := ⟨b, o + k * 3 + 1, none⟩) hbl).trans q1
      have c2 := (hb.cell (p := ⟨b, o + k * 3 + 2, none⟩) hbl).trans q2
      clear q0 q1 q2
      have c3 := hrow.cell hlt
      simp only [Nat.lt_irrefl, if_false] at c3
      have f3 := hrow.frozen k
      have hl := hrow.lt
      go_wp2
      go_roundw
      case rel =>
        refine ⟨k + 1, by omega, by go_num, ?_, (hb.setCell (p := ⟨w.heap.size, k, none⟩) (Nat.le_refl _) _).alloc (by simp; omega) _⟩
        refine ((hrow.set k _).alloc _).congr fun i hi => ?_
        by_cases h1 : i = k
        · subst h1; simp
        · by_cases h2 : i < k
          · simp [h1, h2, show i < k + 1 by omega]
          · simp [h1, h2, show ¬ i < k + 1 by omega]
      case measure => simp [intOf]; omega
    · go_wp2
      go_ret
      refine ⟨_, rfl, ?_, hb⟩
      exact IntsAt.of_row hrow (Nat.le_refl _) hn (fun i hi => (hr'.out i hi).2.2) (fun i hi => by simp [show i < k by omega]) _
end Go.Proofs.Ytioceechdombjaa

namespace Go.Proofs.Ytioceechdombjaa
open Go.RowKit
theorem less_lt (g i : Nat) (x y : Int) (w : World) (hc : w.cell? ⟨g, i, none⟩ = some (.int .i64 y)) (hf : w.frozen? ⟨g, i, none⟩ = false) (h : x < y) :
    Calls Try.prog 71 #[.pointer (some ⟨g, i, none⟩), .int .i64 x] w fun e w' => e = .returned (.bool true) ∧ w' = w.setCell ⟨g, i, none⟩ (.int .i64 x) := by
  go_enter Try.func71, Try.ntmps71
  go_wp2
  go_ret
  exact ⟨rfl, rfl⟩
theorem less_ge (g i : Nat) (x y : Int) (w : World) (hc : w.cell? ⟨g, i, none⟩ = some (.int .i64 y)) (h : y ≤ x) :
    Calls Try.prog 71 #[.pointer (some ⟨g, i, none⟩), .int .i64 x] w fun e w' => e = .returned (.bool false) ∧ w = w' := by
  go_enter Try.func71, Try.ntmps71
  go_wp2
  go_ret
  exact ⟨rfl, rfl⟩
end Go.Proofs.Ytioceechdombjaa
