/- atoms.sort, gantryref13.sort, Node, atoms.bare. -/
import Derived.Test.YtoppfcfalciibaaOffL
import Derived.Test.YtoppfcfalciibaaRCheck
import Derived.Test.YtoppfcfalciibaaBoxes
namespace Go.Proofs.Ytoppfcfalciibaa
open Go.RowKit Go.Maps
set_option maxRecDepth 100000

def sortN (n : Nat) (N : Nat → Nd) (id : Int) : Int := if 0 ≤ id ∧ id < n then (N id.toNat).sort else -1
theorem sortN_in {n : Nat} {N : Nat → Nd} {i : Nat} (h : i < n) : sortN n N (i : Int) = (N i).sort := by unfold sortN; rw [if_pos ⟨by omega, by omega⟩, Int.toNat_natCast]
theorem sortN_out {n : Nat} {N : Nat → Nd} {id : Int} (h : id < 0 ∨ (n : Int) ≤ id) : sortN n N id = -1 := by unfold sortN; rw [if_neg (by omega)]
theorem sortN_R {w : World} {v : Value} {n : Nat} {N : Nat → Nd} (h : NdsAt w v n N) (id : Int) : R64 (sortN n N id) := by
  unfold sortN
  split
  · exact (h.ranges _ (by omega)).sort
  · exact ⟨by decide, by decide⟩

set_option maxHeartbeats 1000000 in
theorem Asort_any (B : Nat) (A : Option Addr) (n c : Nat) (N : Nat → Nd) (id : Int) (w : World) (hB : w.cell? ⟨B, 0, none⟩ = some (.slice A n c)) (hv : NdsAt w (.slice A n c) n N) (hn : n ≤ 1000000) (hid : R64 id) :
    Calls Try.prog 72 #[.pointer (some ⟨B, 0, none⟩), .int .i64 id] w fun e w' => e = .returned (.int .i64 (sortN n N id)) ∧ w = w' := by
  obtain ⟨hid0, hid1⟩ := hid
  obtain ⟨A', c', eA, hc, _, hcs⟩ := hv
  injection eA with eA1 _ eA3
  subst eA1
  have eA3' := Lib.hid eA3
  clear eA3
  by_cases h0 : id < 0
  · have hR := Lib.hid (sortN_out (n := n) (N := N) (.inl h0))
    have d0 : decide (id < 0) = true := by simpa using h0
    clear h0 hcs
    go_enter Try.func72, Try.ntmps72
    go_wp2
    go_ret
    exact ⟨ret_int hR.out.symm, rfl⟩
  · have d0 : decide (id < 0) = false := by simpa using h0
    by_cases h1 : (n : Int) ≤ id
    · have hR := Lib.hid (sortN_out (n := n) (N := N) (.inr h1))
      have d1 : decide ((n : Int) ≤ id) = true := by simpa using h1
      clear h0 h1 hcs
      go_enter Try.func72, Try.ntmps72
      go_wp2
      go_ret
      exact ⟨ret_int hR.out.symm, rfl⟩
    · obtain ⟨i, rfl⟩ := Int.eq_ofNat_of_zero_le (show 0 ≤ id by omega)
      have hi : i < n := by omega
      have hi' : (i : Int) < (n : Int) := by omega
      have d1 : decide (n ≤ i) = false := by simp; omega
      obtain ⟨b, o, rfl, hbl, hcs⟩ := hcs (by omega)
      obtain ⟨e0, e1, e2, e3, e4, e5, e6, e7⟩ := hcs i hi
      have hR := Lib.hid (sortN_in (N := N) hi)
      clear hcs h0 h1
      go_enter Try.func72, Try.ntmps72
      go_wp2
      go_ret
      exact ⟨ret_int hR.out.symm, rfl⟩

set_option maxHeartbeats 1000000 in
theorem Rsort_any (v : Value) (n : Nat) (N : Nat → Nd) (id : Int) (w : World) (hv : NdsAt w v n N) (hn : n ≤ 1000000) (hid : R64 id) :
    Calls Try.prog 62 #[.agg #[v], .int .i64 id] w fun e w' => e = .returned (.int .i64 (sortN n N id)) ∧ Below w.heap.size w w' := by
  obtain ⟨hid0, hid1⟩ := hid
  obtain ⟨A, c, rfl, hc, _, hcs⟩ := hv
  by_cases h0 : id < 0
  · have hR := Lib.hid (sortN_out (n := n) (N := N) (.inl h0))
    have d0 : decide (id < 0) = true := by simpa using h0
    clear h0 hcs
    go_enter Try.func62, Try.ntmps62
    go_wp2
    go_ret
    exact ⟨ret_int hR.out.symm, (Below.refl _ _).alloc (Nat.le_refl _) _⟩
  · have d0 : decide (id < 0) = false := by simpa using h0
    by_cases h1 : (n : Int) ≤ id
    · have hR := Lib.hid (sortN_out (n := n) (N := N) (.inr h1))
      have d1 : decide ((n : Int) ≤ id) = true := by simpa using h1
      clear h0 h1 hcs
      go_enter Try.func62, Try.ntmps62
      go_wp2
      go_ret
      exact ⟨ret_int hR.out.symm, (Below.refl _ _).alloc (Nat.le_refl _) _⟩
    · obtain ⟨i, rfl⟩ := Int.eq_ofNat_of_zero_le (show 0 ≤ id by omega)
      have hi : i < n := by omega
      have hi' : (i : Int) < (n : Int) := by omega
      have d1 : decide (n ≤ i) = false := by simp; omega
      obtain ⟨b, o, rfl, hbl, hcs⟩ := hcs (by omega)
      obtain ⟨e0, e1, e2, e3, e4, e5, e6, e7⟩ := hcs i hi
      have hR := Lib.hid (sortN_in (N := N) hi)
      clear hcs h0 h1
      go_enter Try.func62, Try.ntmps62
      go_wp2
      go_ret
      exact ⟨ret_int hR.out.symm, (Below.refl _ _).alloc (Nat.le_refl _) _⟩

theorem Node13_any (x : Int) (w : World) (h : R64 x) : Calls Try.prog 63 #[.int .i64 x] w fun e w' => e = .returned (.int .i64 (x / 2)) ∧ w = w' := by
  obtain ⟨h0, h1⟩ := h
  go_enter Try.func63, Try.ntmps63
  go_wp2
  go_ret
  exact ⟨ret_int (by omega), rfl⟩

/-- A node without OpNots about it. -/
inductive BareR (N : Nat → Nd) : Nat → Bool → Nat → Bool → Prop
  | base {i : Nat} {g : Bool} (h : (N i).op ≠ 1) : BareR N i g i g
  | step {i j : Nat} {g r : Bool} (h : (N i).op = 1) (t : BareR N (N i).a0.toNat (!g) j r) : BareR N i g j r
theorem CheckP.nots {n : Nat} {N : Nat → Nd} (h : CheckP n N) {i : Nat} (hi : i < n) (hop : (N i).op = 1) : 0 ≤ (N i).a0 ∧ (N i).a0 < i := by
  have hs := h.all i hi
  have ha : ar (N i).op = 1 := by rw [hop]; decide
  have hl := hs.len (by omega)
  rw [ha] at hl
  exact hs.arg0.1 (by omega)
theorem bare_total {n : Nat} {N : Nat → Nd} (h : CheckP n N) : ∀ (i : Nat) (_ : i < n) (g : Bool), ∃ j r, BareR N i g j r := by
  intro i
  induction i using Nat.strongRecOn with
  | _ i ih =>
    intro hi g
    by_cases h1 : (N i).op = 1
    · have ha := h.nots hi h1
      obtain ⟨j, r, hr⟩ := ih (N i).a0.toNat (by omega) (by omega) (!g)
      exact ⟨j, r, .step h1 hr⟩
    · exact ⟨i, g, .base h1⟩
theorem bare_det {N : Nat → Nd} {i : Nat} {g : Bool} {j j' : Nat} {r r' : Bool} (h : BareR N i g j r) (h' : BareR N i g j' r') : j = j' ∧ r = r' := by
  induction h with
  | base h =>
    cases h' with
    | base => exact ⟨rfl, rfl⟩
    | step h1 => exact absurd h1 h
  | step h t ih =>
    cases h' with
    | base h1 => exact absurd h h1
    | step _ t' => exact ih t'
theorem BareR.lt {n : Nat} {N : Nat → Nd} (hc : CheckP n N) {i : Nat} {g : Bool} {j : Nat} {r : Bool} (h : BareR N i g j r) (hi : i < n) : j ≤ i ∧ (N j).op ≠ 1 := by
  induction h with
  | base h => exact ⟨Nat.le_refl _, h⟩
  | step h t ih =>
    have ha := hc.nots hi h
    have := ih (by omega)
    exact ⟨by omega, this.2⟩

set_option maxHeartbeats 2000000 in
theorem Bare_any (B : Nat) (A : Option Addr) (n c i : Nat) (N : Nat → Nd) (w : World) (hB : w.cell? ⟨B, 0, none⟩ = some (.slice A n c)) (hv : NdsAt w (.slice A n c) n N) (hn : n ≤ 1000000) (hch : CheckP n N) (hi : i < n) (j : Nat) (r : Bool) (hR : BareR N i false j r) :
    Calls Try.prog 73 #[.pointer (some ⟨B, 0, none⟩), .int .i64 i] w fun e w' => e = .returned (.tuple #[.int .i64 j, .bool r]) ∧ ∃ d, w' = w.drewN d := by
  obtain ⟨A', c', eA, hc, _, hcs⟩ := hv
  injection eA with eA1 _ eA3
  subst eA1
  have eA3' := Lib.hid eA3
  clear eA3
  obtain ⟨b, o, rfl, hbl, hcs⟩ := hcs (by omega)
  have hcs' := Lib.hid hcs
  have hch' := Lib.hid hch
  have hR' := Lib.hid hR
  clear hcs hch hR
  go_enter Try.func73, Try.ntmps73
  go_wp2
  go_loopw [1, 6] (fun x g wr => ∃ (k : Nat) (s : Bool), k < n ∧ x = .int .i64 k ∧ g = .bool s ∧ Hid (BareR N k s j r) ∧ ∃ d, wr = w.drewN d) (fun x _ _ => (intOf x).toNat)
  case atStart => exact ⟨i, false, hi, rfl, rfl, hR'.out, 0, rfl⟩
  case round =>
    obtain ⟨k, s, hk, rfl, rfl, hb, d, rfl⟩ := hrel
    have hk' : (k : Int) < (n : Int) := by omega
    obtain ⟨e0, e1, e2, e3, e4, e5, e6, e7⟩ := hcs'.out k hk
    by_cases h1 : (N k).op = 1
    · have d1 : ((N k).op == 1) = true := by simpa using h1
      have ha := hch'.out.nots hk h1
      obtain ⟨m, hm⟩ := Int.eq_ofNat_of_zero_le ha.1
      have hmk : m < k := by omega
      have hb' : Hid (BareR N m (!s) j r) := by
        cases hb.out with
        | base h => exact absurd h1 h
        | step _ t => rw [hm, Int.toNat_natCast] at t; exact t
      rw [hm] at e2
      clear ha hm h1
      go_wp2
      go_roundw
      case rel => exact ⟨m, !s, by omega, rfl, rfl, hb'.out, _, rfl⟩
      case measure => simp [intOf]; omega
    · have d1 : ((N k).op == 1) = false := by simpa using h1
      have hb' : Hid (k = j ∧ s = r) := by
        cases hb.out with
        | base => exact ⟨rfl, rfl⟩
        | step h => exact absurd h h1
      clear h1
      go_wp2
      go_ret2
      exact ⟨by rw [← hb'.out.1, ← hb'.out.2]; rfl, _, rfl⟩
end Go.Proofs.Ytoppfcfalciibaa
