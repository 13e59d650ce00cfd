/- Plain laws on potentials. -/
import Derived.Test.YtioceechdombjaaGraphF
import Derived.Test.YtioceechdombjaaBellC
namespace Go.Proofs.Ytioceechdombjaa
open Go.RowKit

theorem sumTo_eq {f : Nat → Int} {M : Int} (n : Nat) : ∀ {s : Int}, sumTo f M n = some s → s = sumN (fun i => absI (f i) + 1) n := by
  induction n with
  | zero => intro s h; injection h with h; rw [← h]; rfl
  | succ n ih =>
    intro s h
    cases hs : sumTo f M n with
    | none => rw [sumTo_none hs (by omega)] at h; cases h
    | some t =>
      rw [sumTo_succ hs] at h
      by_cases hc : (f n ≤ 4611686018427387904 ∧ -4611686018427387904 ≤ f n) ∧ (f n < M - t ∧ - f n < M - t)
      · rw [if_pos hc] at h
        injection h with h
        show s = sumN (fun i => absI (f i) + 1) n + (absI (f n) + 1)
        rw [← ih hs, ← h]; unfold absI; omega
      · rw [if_neg hc] at h; cases h
theorem sumN_le {f g : Nat → Int} {m : Nat} (h : ∀ i, f i ≤ g i) : sumN f m ≤ sumN g m := by
  induction m with
  | zero => exact Int.le_refl _
  | succ m ih => have := h m; show sumN f m + f m ≤ sumN g m + g m; omega
theorem check_sumN {n : Int} {m : Nat} {E : Nat → Ed} (h : checkR n m E = 0) : sumN (fun i => absI (E i).wt) m ≤ 4611686018427387904 := by
  obtain ⟨_, _, _, hs⟩ := check_ok h
  cases hc : sumTo (fun i => (E i).wt) 4611686018427387904 m with
  | none => exact absurd hc hs
  | some s =>
    have h1 := sumTo_eq m hc
    have h2 := sumTo_bd (by omega) hc
    have h3 := sumN_le (f := fun i => absI (E i).wt) (g := fun i => absI (E i).wt + 1) (m := m) (fun i => by omega)
    omega
theorem sumTo_iff {f : Nat → Int} {M : Int} (hM : 0 ≤ M) (n : Nat) : sumTo f M n ≠ none ↔ (∀ i, i < n → -4611686018427387904 ≤ f i ∧ f i ≤ 4611686018427387904) ∧ sumN (fun i => absI (f i) + 1) n ≤ M := by
  constructor
  · intro h
    refine ⟨sumTo_some h, ?_⟩
    cases hs : sumTo f M n with
    | none => exact absurd hs h
    | some s => rw [← sumTo_eq n hs]; exact (sumTo_bd hM hs).2
  · induction n with
    | zero => intro _ h; cases h
    | succ n ih =>
      rintro ⟨h1, h2⟩
      have h2' : sumN (fun i => absI (f i) + 1) n + (absI (f n) + 1) ≤ M := h2
      have ha : 0 ≤ absI (f n) ∧ f n ≤ absI (f n) ∧ - f n ≤ absI (f n) := by unfold absI; split <;> omega
      have h3 := ih ⟨fun i hi => h1 i (by omega), by omega⟩
      cases hs : sumTo f M n with
      | none => exact absurd hs h3
      | some s =>
        have h4 := sumTo_eq n hs
        have h5 := h1 n (by omega)
        rw [sumTo_succ hs, if_pos (by omega)]
        simp
theorem check_mk {n : Int} {m : Nat} {E : Nat → Ed} (h0 : 0 ≤ n) (h1 : n ≤ 4096) (h2 : edsB n E m = true) (h3 : sumTo (fun i => (E i).wt) 4611686018427387904 m ≠ none) : checkR n m E = 0 := by
  unfold checkR
  rw [if_neg (by omega), if_neg (by simp [h2]), if_neg h3]
theorem check_un {n : Int} {m : Nat} {E : Nat → Ed} (h : checkR n m E = 0) : 0 ≤ n ∧ n ≤ 4096 ∧ edsB n E m = true ∧ sumTo (fun i => (E i).wt) 4611686018427387904 m ≠ none := by
  obtain ⟨h0, h1, _, h3⟩ := check_ok h
  refine ⟨h0, h1, ?_, h3⟩
  unfold checkR at h
  rw [if_neg (by omega)] at h
  cases he : edsB n E m with
  | true => rfl
  | false => rw [if_pos he] at h; omega
theorem bad_iff {n : Int} {m : Nat} {E : Nat → Ed} (h : checkR n m E = 0) : badR n m E = true ↔ ¬ ∃ x, Feas E m x := by
  obtain ⟨h0, h1, hE, _⟩ := check_ok h
  have hS := check_sumN h
  unfold badR
  rw [decide_eq_true_eq]
  constructor
  · rintro ⟨_, hf⟩ ⟨x, hx⟩
    have := relax_conv hE hS hx
    omega
  · intro hno
    refine ⟨h, ?_⟩
    by_cases hf : 0 ≤ (relaxR n.toNat E m).fell
    · exact hf
    · exact absurd ⟨_, relax_feas (n := n.toNat) (fun i hi => (hE i hi).2.2.1) (by omega)⟩ hno
theorem good_facts {n : Int} {m : Nat} {E : Nat → Ed} (h : checkR n m E = 0) (hb : badR n m E = false) : lenR n m E = n.toNat ∧ Feas E m (potR n m E) := by
  obtain ⟨h0, h1, hE, _⟩ := check_ok h
  have hf : (relaxR n.toNat E m).fell < 0 := by
    unfold badR at hb
    simp [h] at hb
    exact hb
  refine ⟨?_, relax_feas (fun i hi => (hE i hi).2.2.1) hf⟩
  unfold lenR; rw [if_pos ⟨h, hf⟩]
theorem bad_len {n : Int} {m : Nat} {E : Nat → Ed} (hb : badR n m E = true) : lenR n m E = 0 := by
  unfold badR at hb
  simp at hb
  unfold lenR
  rw [if_neg (by omega)]
theorem pot_le (n : Int) (m : Nat) (E : Nat → Ed) (i : Nat) : potR n m E i ≤ 0 := relax_le _ _ _ _
theorem pot_ge {n : Int} {m : Nat} {E : Nat → Ed} {x : Nat → Int} (hx : Feas E m x) (h0 : ∀ v, x v ≤ 0) (i : Nat) : x i ≤ potR n m E i := relax_ge hx h0 i
theorem scan_pin {E : Nat → Ed} {s : BS} (h : ∀ v, -4611686018427387904 ≤ s.p v) : ∀ k, (scanTo E s k).out = false → ∀ v, -4611686018427387904 ≤ (scanTo E s k).s.p v := by
  intro k
  induction k with
  | zero => intro _; exact h
  | succ k ih =>
    intro ho v
    by_cases ho2 : (scanTo E s k).out = true
    · rw [scanTo, if_pos ho2] at ho; rw [ho2] at ho; cases ho
    · have ho3 : (scanTo E s k).out = false := by simpa using ho2
      rw [scan_succ ho3] at ho ⊢
      have h1 := ih ho3
      by_cases hd : (scanTo E s k).s.p (E k).src.toNat + (E k).wt < (scanTo E s k).s.p (E k).dst.toNat
      · by_cases h2 : (scanTo E s k).s.p (E k).src.toNat + (E k).wt < -4611686018427387904
        · rw [edge_out hd h2] at ho; cases ho
        · rw [edge_in hd (by omega)]
          show _ ≤ upd _ _ _ v
          by_cases e : v = (E k).dst.toNat
          · rw [e, upd_same]; omega
          · rw [upd_other _ _ e]; exact h1 v
      · rw [edge_ge (by omega)]; exact h1 v
theorem rounds_pin (E : Nat → Ed) (m : Nat) : ∀ r, (roundsTo E m r).out = false → ∀ v, -4611686018427387904 ≤ (roundsTo E m r).s.p v := by
  intro r
  induction r with
  | zero => intro _ v; show -4611686018427387904 ≤ (0 : Int); omega
  | succ r ih =>
    intro ho v
    rw [roundsTo] at ho ⊢
    by_cases h1 : (roundsTo E m r).out = true
    · rw [if_pos h1, h1] at ho; cases ho
    · rw [if_neg h1] at ho ⊢
      have h1' : (roundsTo E m r).out = false := by simpa using h1
      by_cases h2 : (roundsTo E m r).fell < 0
      · rw [if_pos h2]; exact ih h1' v
      · rw [if_neg h2] at ho ⊢
        exact scan_pin (ih h1') m ho v
theorem pot_pin {n : Int} {m : Nat} {E : Nat → Ed} (h : checkR n m E = 0) (hb : badR n m E = false) (v : Nat) : -4611686018427387904 ≤ potR n m E v := by
  obtain ⟨_, _, hE, _⟩ := check_ok h
  have hf : (relaxR n.toNat E m).fell < 0 := by unfold badR at hb; simp [h] at hb; exact hb
  unfold potR relaxR at *
  rcases rounds_inv (fun i hi => (hE i hi).2.2.1) (n.toNat + 1) with ⟨_, h1, _⟩ | ⟨ho, _, _⟩ | ⟨_, h1, _⟩
  · omega
  · exact rounds_pin E m _ ho v
  · omega
end Go.Proofs.Ytioceechdombjaa
