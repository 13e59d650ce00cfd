/- atoms.sort, gantryref13.sort, Node. -/
import Derived.Test.YtioceechdombjaaRCheck
import Derived.Test.YtioceechdombjaaBoxes
namespace Go.Proofs.Ytioceechdombjaa
open Go.RowKit Go.Maps
set_option maxRecDepth 100000

def sortN (n : Nat) (N : Nat → Nd) (id : Int) : Int := if 0 ≤ id ∧ id < n then (N id.toNat).sort else -1
theorem sortN_in {n : Nat} {N : Nat → Nd} {i : Nat} (h : i < n) : sortN n N (i : Int) = (N i).sort := by unfold sortN; rw [if_pos ⟨by omega, by omega⟩, Int.toNat_natCast]
theorem sortN_out {n : Nat} {N : Nat → Nd} {id : Int} (h : id < 0 ∨ (n : Int) ≤ id) : sortN n N id = -1 := by unfold sortN; rw [if_neg (by omega)]
theorem sortN_R {w : World} {v : Value} {n : Nat} {N : Nat → Nd} (h : NdsAt w v n N) (id : Int) : R64 (sortN n N id) := by
  unfold sortN
  split
  · exact (h.ranges _ (by omega)).sort
  · exact ⟨by decide, by decide⟩

set_option maxHeartbeats 1000000 in
theorem Asort_any (B : Nat) (A : Option Addr) (n c : Nat) (N : Nat → Nd) (id : Int) (w : World) (hB : w.cell? ⟨B, 0, none⟩ = some (.slice A n c)) (hv : NdsAt w (.slice A n c) n N) (hn : n ≤ 1000000) (hid : R64 id) :
    Calls Try.prog 52 #[.pointer (some ⟨B, 0, none⟩), .int .i64 id] w fun e w' => e = .returned (.int .i64 (sortN n N id)) ∧ w = w' := by
  obtain ⟨hid0, hid1⟩ := hid
  obtain ⟨A', c', eA, hc, _, hcs⟩ := hv
  injection eA with eA1 _ eA3
  subst eA1
  have eA3' := Lib.hid eA3
  clear eA3
  by_cases h0 : id < 0
  · have hR := Lib.hid (sortN_out (n := n) (N := N) (.inl h0))
    have d0 : decide (id < 0) = true := by simpa using h0
    clear h0 hcs
    go_enter Try.func52, Try.ntmps52
    go_wp2
    go_ret
    exact ⟨ret_int hR.out.symm, rfl⟩
  · have d0 : decide (id < 0) = false := by simpa using h0
    by_cases h1 : (n : Int) ≤ id
    · have hR := Lib.hid (sortN_out (n := n) (N := N) (.inr h1))
      have d1 : decide ((n : Int) ≤ id) = true := by simpa using h1
      clear h0 h1 hcs
      go_enter Try.func52, Try.ntmps52
      go_wp2
      go_ret
      exact ⟨ret_int hR.out.symm, rfl⟩
    · obtain ⟨i, rfl⟩ := Int.eq_ofNat_of_zero_le (show 0 ≤ id by omega)
      have hi : i < n := by omega
      have hi' : (i : Int) < (n : Int) := by omega
      have d1 : decide (n ≤ i) = false := by simp; omega
      obtain ⟨b, o, rfl, hbl, hcs⟩ := hcs (by omega)
      obtain ⟨e0, e1, e2, e3, e4, e5, e6, e7⟩ := hcs i hi
      have hR := Lib.hid (sortN_in (N := N) hi)
      clear hcs h0 h1
      go_enter Try.func52, Try.ntmps52
      go_wp2
      go_ret
      exact ⟨ret_int hR.out.symm, rfl⟩

set_option maxHeartbeats 1000000 in
theorem Rsort_any (v : Value) (n : Nat) (N : Nat → Nd) (id : Int) (w : World) (hv : NdsAt w v n N) (hn : n ≤ 1000000) (hid : R64 id) :
    Calls Try.prog 22 #[.agg #[v], .int .i64 id] w fun e w' => e = .returned (.int .i64 (sortN n N id)) ∧ Below w.heap.size w w' := by
  obtain ⟨hid0, hid1⟩ := hid
  obtain ⟨A, c, rfl, hc, _, hcs⟩ := hv
  by_cases h0 : id < 0
  · have hR := Lib.hid (sortN_out (n := n) (N := N) (.inl h0))
    have d0 : decide (id < 0) = true := by simpa using h0
    clear h0 hcs
    go_enter Try.func22, Try.ntmps22
    go_wp2
    go_ret
    exact ⟨ret_int hR.out.symm, (Below.refl _ _).alloc (Nat.le_refl _) _⟩
  · have d0 : decide (id < 0) = false := by simpa using h0
    by_cases h1 : (n : Int) ≤ id
    · have hR := Lib.hid (sortN_out (n := n) (N := N) (.inr h1))
      have d1 : decide ((n : Int) ≤ id) = true := by simpa using h1
      clear h0 h1 hcs
      go_enter Try.func22, Try.ntmps22
      go_wp2
      go_ret
      exact ⟨ret_int hR.out.symm, (Below.refl _ _).alloc (Nat.le_refl _) _⟩
    · obtain ⟨i, rfl⟩ := Int.eq_ofNat_of_zero_le (show 0 ≤ id by omega)
      have hi : i < n := by omega
      have hi' : (i : Int) < (n : Int) := by omega
      have d1 : decide (n ≤ i) = false := by simp; omega
      obtain ⟨b, o, rfl, hbl, hcs⟩ := hcs (by omega)
      obtain ⟨e0, e1, e2, e3, e4, e5, e6, e7⟩ := hcs i hi
      have hR := Lib.hid (sortN_in (N := N) hi)
      clear hcs h0 h1
      go_enter Try.func22, Try.ntmps22
      go_wp2
      go_ret
      exact ⟨ret_int hR.out.symm, (Below.refl _ _).alloc (Nat.le_refl _) _⟩

theorem Node13_any (x : Int) (w : World) (h : R64 x) : Calls Try.prog 23 #[.int .i64 x] w fun e w' => e = .returned (.int .i64 (x / 2)) ∧ w = w' := by
  obtain ⟨h0, h1⟩ := h
  go_enter Try.func23, Try.ntmps23
  go_wp2
  go_ret
  exact ⟨ret_int (by omega), rfl⟩
end Go.Proofs.Ytioceechdombjaa
