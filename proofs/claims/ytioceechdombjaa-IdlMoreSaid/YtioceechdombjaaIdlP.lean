/- Layer 25, plain laws: fewer literals, a negation turned about. -/
import Derived.Test.YtioceechdombjaaIdlG
import Derived.Test.YtioceechdombjaaIdlN
namespace Go.Proofs.Ytioceechdombjaa
open Go.RowKit

theorem edsL_sub {N : Nat → Nd} {a b : List Int} (h : List.Sublist a b) : List.Sublist (edsL N a) (edsL N b) := by
  induction h with
  | slnil => exact List.Sublist.slnil
  | cons x _ ih =>
    rw [edsL]
    split
    · exact ih.cons _
    · exact ih
  | cons_cons x _ ih =>
    rw [edsL, edsL]
    split
    · exact ih.cons_cons _
    · exact ih
def wsum : List Ed → Int
  | [] => 0
  | e :: l => (absI e.wt + 1) + wsum l
theorem wsum_sub {a b : List Ed} (h : List.Sublist a b) : wsum a ≤ wsum b := by
  induction h with
  | slnil => exact Int.le_refl _
  | cons x _ ih => have := absI_nn x.wt; rw [show wsum (x :: _) = (absI x.wt + 1) + wsum _ from rfl]; omega
  | cons_cons x _ ih => rw [show wsum (x :: _) = (absI x.wt + 1) + wsum _ from rfl, show wsum (x :: _) = (absI x.wt + 1) + wsum _ from rfl]; omega
theorem sumN_hd : ∀ (m : Nat) (f : Nat → Int), sumN f (m + 1) = f 0 + sumN (fun i => f (i + 1)) m
  | 0, f => by show sumN f 0 + f 0 = f 0 + 0; rw [show sumN f 0 = 0 from rfl]; omega
  | m + 1, f => by
    show sumN f (m + 1) + f (m + 1) = f 0 + (sumN (fun i => f (i + 1)) m + f (m + 1))
    rw [sumN_hd m f]; omega
theorem wsum_eq : ∀ L : List Ed, sumN (fun i => absI (eF L i).wt + 1) L.length = wsum L
  | [] => rfl
  | e :: l => by
    rw [List.length_cons, sumN_hd]
    have : (fun i => absI (eF (e :: l) (i + 1)).wt + 1) = fun i => absI (eF l i).wt + 1 := by
      funext i
      rfl
    rw [this, wsum_eq l]
    rfl
theorem icK_iff {n : Nat} {N : Nat → Nd} (hc : CheckP n N) (hn : n ≤ 4096) {xs : List Int} (hxs : ∀ x ∈ xs, badLit n N x = false) :
    icK n N xs = 0 ↔ (∀ e ∈ edsL N xs, -4611686018427387904 ≤ e.wt ∧ e.wt ≤ 4611686018427387904) ∧ wsum (edsL N xs) ≤ 4611686018427387904 := by
  have he : edsB n (icF N xs) (icM N xs) = true := by
    rw [edsB_iff]
    unfold icF icM
    rw [eF_all (fun e => 0 ≤ e.src ∧ e.src < (n : Int) ∧ 0 ≤ e.dst ∧ e.dst < (n : Int))]
    intro e he
    obtain ⟨x, hx, hd, rfl⟩ := edsL_mem.1 he
    obtain ⟨_, h1, g0, g1, g2, g3, g4, g5⟩ := diff_at hc (hxs x hx) hd
    unfold edOf
    split
    · exact ⟨g0, g1, g2, g3⟩
    · exact ⟨g2, g3, g0, g1⟩
  have hst : sumTo (fun i => (icF N xs i).wt) 4611686018427387904 (icM N xs) ≠ none ↔ (∀ e ∈ edsL N xs, -4611686018427387904 ≤ e.wt ∧ e.wt ≤ 4611686018427387904) ∧ wsum (edsL N xs) ≤ 4611686018427387904 := by
    rw [sumTo_iff (by omega)]
    unfold icF icM
    rw [eF_all (fun e => -4611686018427387904 ≤ e.wt ∧ e.wt ≤ 4611686018427387904), wsum_eq]
  rw [← hst]
  constructor
  · intro h
    exact (check_un (n := (n : Int)) (m := icM N xs) (E := icF N xs) h).2.2.2
  · intro h
    exact check_mk (by omega) (by omega) he h
theorem icK_sub {n : Nat} {N : Nat → Nd} (hc : CheckP n N) (hn : n ≤ 4096) {a b : List Int} (hs : List.Sublist a b) (hxs : ∀ x ∈ b, badLit n N x = false) (h : icK n N b = 0) : icK n N a = 0 := by
  rw [icK_iff hc hn hxs] at h
  rw [icK_iff hc hn fun x hx => hxs x (hs.subset hx)]
  have he := edsL_sub (N := N) hs
  exact ⟨fun e hx => h.1 e (he.subset hx), Int.le_trans (wsum_sub he) h.2⟩
theorem icB_iff {n : Nat} {N : Nat → Nd} {xs : List Int} (h : icK n N xs = 0) : icB n N xs = true ↔ ¬ ∃ x, HoldL (edsL N xs) x := by
  have := bad_iff (n := (n : Int)) (m := icM N xs) (E := icF N xs) h
  unfold icB
  rw [this]
  constructor
  · rintro h ⟨x, hx⟩; exact h ⟨x, feas_hold.2 hx⟩
  · rintro h ⟨x, hx⟩; exact h ⟨x, feas_hold.1 hx⟩
/-- More edges are no less bad. -/
theorem icB_mono {n : Nat} {N : Nat → Nd} {a b : List Int} (hs : ∀ e ∈ edsL N a, e ∈ edsL N b) (ha : icK n N a = 0) (hb : icK n N b = 0) (h : icB n N a = true) : icB n N b = true := by
  rw [icB_iff ha] at h
  rw [icB_iff hb]
  rintro ⟨x, hx⟩
  exact h ⟨x, fun e he => hx e (hs e he)⟩
theorem erase_sub (l : List Int) (i : Nat) : List.Sublist (l.eraseIdx i) l := List.eraseIdx_sublist l i
/-- What Conflict hands back. -/
structure ConfP (n : Nat) (N : Nat → Nd) (xs c : List Int) : Prop where
  sub : List.Sublist c xs
  bad : icB n N c = true
  least : ∀ i, i < c.length → icB n N (c.eraseIdx i) = false
/-- The invariant of its loop. -/
structure ConfI (n : Nat) (N : Nat → Nd) (xs c : List Int) (i : Nat) : Prop where
  sub : List.Sublist c xs
  bad : icB n N c = true
  least : ∀ j, j < i → icB n N (c.eraseIdx j) = false
  le : i ≤ c.length
theorem erase_two (l : List Int) (i j : Nat) (h : j < i) : List.Sublist ((l.eraseIdx i).eraseIdx j) (l.eraseIdx j) := by
  induction l generalizing i j with
  | nil => simp
  | cons a l ih =>
    cases i with
    | zero => omega
    | succ i =>
      cases j with
      | zero => simpa using erase_sub l i
      | succ j => simpa using (ih i j (by omega)).cons_cons a
theorem ConfI.down {n : Nat} {N : Nat → Nd} (hc : CheckP n N) (hn : n ≤ 4096) {xs c : List Int} {i : Nat} (hxs : ∀ x ∈ xs, badLit n N x = false) (hk : icK n N xs = 0) (h : ConfI n N xs c i) (hi : i < c.length) (hb : icB n N (c.eraseIdx i) = true) : ConfI n N xs (c.eraseIdx i) i := by
  refine ⟨(erase_sub c i).trans h.sub, hb, fun j hj => ?_, by rw [List.length_eraseIdx_of_lt hi]; omega⟩
  have h1 := h.least j hj
  cases h2 : icB n N ((c.eraseIdx i).eraseIdx j) with
  | false => rfl
  | true =>
    have hs := erase_two c i j hj
    have k1 : icK n N ((c.eraseIdx i).eraseIdx j) = 0 := icK_sub hc hn ((erase_sub _ j).trans ((erase_sub c i).trans h.sub)) hxs hk
    have k2 : icK n N (c.eraseIdx j) = 0 := icK_sub hc hn ((erase_sub c j).trans h.sub) hxs hk
    rw [icB_mono (fun e he => (edsL_sub hs).subset he) k1 k2 h2] at h1
    cases h1
theorem ConfI.on {n : Nat} {N : Nat → Nd} {xs c : List Int} {i : Nat} (h : ConfI n N xs c i) (hi : i < c.length) (hb : icB n N (c.eraseIdx i) = false) : ConfI n N xs c (i + 1) :=
  ⟨h.sub, h.bad, fun j hj => by
    by_cases e : j = i
    · subst e; exact hb
    · exact h.least j (by omega), by omega⟩
theorem ConfI.done {n : Nat} {N : Nat → Nd} {xs c : List Int} {i : Nat} (h : ConfI n N xs c i) (hi : ¬ i < c.length) : ConfP n N xs c := ⟨h.sub, h.bad, fun j hj => h.least j (by omega)⟩
theorem ConfI.ne {n : Nat} {N : Nat → Nd} {xs c : List Int} {i : Nat} (h : ConfI n N xs c i) : 0 < c.length := by
  rcases Nat.eq_zero_or_pos c.length with h0 | h0
  · have : c = [] := List.length_eq_zero_iff.1 h0
    have hb := h.bad
    rw [this] at hb
    have hk : icK n N [] = 0 := icK_zero hb
    exact absurd ⟨fun _ => 0, fun e he => by cases he⟩ ((icB_iff hk).1 hb)
  · exact h0
end Go.Proofs.Ytioceechdombjaa
