/- atoms.Euf, atoms.Idl. -/
import Derived.Test.YtoppfcfalciibaaOnly
import Derived.Test.YtoppfcfalciibaaKindA
import Derived.Test.YtoppfcfalciibaaAtmM
namespace Go.Proofs.Ytoppfcfalciibaa
open Go.RowKit Go.Maps
set_option maxRecDepth 100000

noncomputable def eufB (n : Nat) (N : Nat → Nd) (x : Int) : Bool := (kindN n N (x / 2) == 4) || (kindN n N (x / 2) == 5) || (kindN n N (x / 2) == 8) || @decide (argN n N (x / 2)) (Classical.propDecidable _)
def idlB (n : Nat) (N : Nat → Nd) (x : Int) : Bool := kindN n N (x / 2) == 6
theorem kindN_R (n : Nat) (N : Nat → Nd) (x : Int) : 0 ≤ kindN n N x ∧ kindN n N x ≤ 8 := by
  unfold kindN kdE kdT
  repeat' split
  all_goals omega

set_option maxHeartbeats 4000000 in
theorem IdlF_any (x : Int) (B : Nat) (A : Option Addr) (n c : Nat) (N : Nat → Nd) (w : World) (hB : w.cell? ⟨B, 0, none⟩ = some (.slice A n c)) (hv : NdsAt w (.slice A n c) n N) (hn : n ≤ 1000000) (hx : R64 x) :
    Calls Try.prog 69 #[.int .i64 x, .pointer (some ⟨B, 0, none⟩)] w fun e w' => e = .returned (.bool (idlB n N x)) ∧ Below w.heap.size w w' := by
  have hv' := Lib.hid hv
  have hR2 : R64 (x / 2) := by obtain ⟨p, q⟩ := hx; unfold R64; omega
  have hR : Hid (idlB n N x = (kindN n N (x / 2) == 6)) := rfl
  have hK := fun y (h : NdsAt y (.slice A n c) n N) => Kind_any (.slice A n c) n N (x / 2) y h hn hR2
  obtain ⟨k0, k8⟩ := kindN_R n N (x / 2)
  generalize kindN n N (x / 2) = k at *
  obtain ⟨x0, x1⟩ := hx
  clear hv
  go_enter Try.func69, Try.ntmps69
  go_wp2_with fail
  refine (hK _ hv'.out).mono ?_
  rintro e w2 ⟨rfl, hb2⟩
  go_wp2
  go_ret
  exact ⟨ret_bool hR.out.symm, hb2⟩

set_option maxHeartbeats 4000000 in
theorem EufF_any (x : Int) (B C M K : Nat) (S : Int → Int) (A : Option Addr) (n c : Nat) (N : Nat → Nd) (w : World) (hB : w.cell? ⟨B, 0, none⟩ = some (.slice A n c)) (hC : w.cell? ⟨C, 0, none⟩ = some (.map (some M))) (hCs : C < w.heap.size) (hM : CntAt w M K S) (hok : CntOk N n 0 (3 * n) S)
    (hv : NdsAt w (.slice A n c) n N) (hn : n ≤ 1000000) (hx : R64 x) :
    Calls Try.prog 68 #[.int .i64 x, .pointer (some ⟨B, 0, none⟩), .pointer (some ⟨C, 0, none⟩)] w fun e w' => e = .returned (.bool (eufB n N x)) ∧ Below w.heap.size w w' := by
  have hv' := Lib.hid hv
  have hR2 : R64 (x / 2) := by obtain ⟨p, q⟩ := hx; unfold R64; omega
  have hR2' := Lib.hid hR2
  have hM' := Lib.hid hM
  have hR : Hid (eufB n N x = ((kindN n N (x / 2) == 4) || (kindN n N (x / 2) == 5) || (kindN n N (x / 2) == 8) || decide (0 < S (x / 2)))) := by
    unfold Hid eufB
    congr 1
    have := (hok (x / 2)).2
    rw [Bool.eq_iff_iff, decide_eq_true_iff (p := 0 < S (x / 2)), @decide_eq_true_iff _ (Classical.propDecidable _)]
    exact this.symm
  have hK := fun y (h : NdsAt y (.slice A n c) n N) => Kind_any (.slice A n c) n N (x / 2) y h hn hR2
  have hC' := Lib.hid hC
  generalize kindN n N (x / 2) = k at *
  generalize hs : S (x / 2) = s at *
  have hs' := Lib.hid hs
  obtain ⟨x0, x1⟩ := hx
  clear hv hM hok hC hR2 hs
  go_enter Try.func68, Try.ntmps68
  go_wp2_with fail
  refine (hK _ hv'.out).mono ?_
  rintro e w2 ⟨rfl, hb2⟩
  by_cases h4 : k = 4
  · subst h4
    go_wp2
    go_ret
    exact ⟨ret_bool (by rw [hR.out]; rfl), hb2⟩
  by_cases h5 : k = 5
  · subst h5
    go_wp2
    go_ret
    exact ⟨ret_bool (by rw [hR.out]; rfl), hb2⟩
  by_cases h8 : k = 8
  · subst h8
    go_wp2
    go_ret
    exact ⟨ret_bool (by rw [hR.out]; rfl), hb2⟩
  have d4 : (k == 4) = false := by simpa using h4
  have d5 : (k == 5) = false := by simpa using h5
  have d8 : (k == 8) = false := by simpa using h8
  have hC2 := (hb2.cell (p := ⟨C, 0, none⟩) hCs).trans hC'.out
  have hlk := (hM'.out.below hb2 hM'.out.lt).look hR2'.out
  rw [hs'.out] at hlk
  have hx2 := Lib.hid hlk
  go_wp2
  go_ret
  exact ⟨ret_bool (by rw [hR.out, d4, d5, d8]; rfl), hb2⟩
end Go.Proofs.Ytoppfcfalciibaa
