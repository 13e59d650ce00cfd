/- The plain words of layer 11: base and number of a node, a table in order. -/
import Derived.Test.YtecmoahadckomaaZTermBTermLGathL
import Derived.Test.YtecmoahadckomaaZNumAddOffA
namespace Go.Proofs.Ytecmoahadckomaa
open Go.RowKit Go.Maps

inductive OfR (N : Nat → Nd) : Nat → Int → Option (Nat × Int) → Prop
  | add {i : Nat} {k : Int} {r : Option (Nat × Int)} (h : (N i).op = 11) (ok : addOk k (N i).num = true) (t : OfR N (N i).a0.toNat (k + (N i).num) r) : OfR N i k r
  | addNo {i : Nat} {k : Int} (h : (N i).op = 11) (no : addOk k (N i).num = false) : OfR N i k none
  | num {i : Nat} {k : Int} (h : (N i).op = 10) (ok : addOk k (N i).num = true) : OfR N i k (some (1, k + (N i).num))
  | numNo {i : Nat} {k : Int} (h : (N i).op = 10) (no : addOk k (N i).num = false) : OfR N i k none
  | base {i : Nat} {k : Int} (h1 : (N i).op ≠ 11) (h2 : (N i).op ≠ 10) : OfR N i k (some (i, k))
theorem CheckP.add {n : Nat} {N : Nat → Nd} (h : CheckP n N) {i : Nat} (hi : i < n) (hop : (N i).op = 11) :
    (N i).len = 1 ∧ (0 ≤ (N i).a0 ∧ (N i).a0 < i) ∧ (N i).a1 = 0 ∧ (N i).a2 = 0 ∧ (N i).fn = 0 := by
  have hs := h.all i hi
  have ha : ar (N i).op = 1 := by rw [hop]; decide
  have hl := hs.len (by omega)
  rw [ha] at hl
  refine ⟨hl, hs.arg0.1 (by omega), hs.arg1.2 (by omega), hs.arg2.2 (by omega), ?_⟩
  by_cases h0 : (N i).fn = 0
  · exact h0
  · have := hs.app h0; omega
theorem CheckP.nums {n : Nat} {N : Nat → Nd} (h : CheckP n N) {i : Nat} (hi : i < n) (hop : (N i).op = 10) :
    (N i).len = 0 ∧ (N i).a0 = 0 ∧ (N i).a1 = 0 ∧ (N i).a2 = 0 ∧ (N i).fn = 0 := by
  have hs := h.all i hi
  have ha : ar (N i).op = 0 := by rw [hop]; decide
  have hl := hs.len (by omega)
  rw [ha] at hl
  refine ⟨hl, hs.arg0.2 (by omega), hs.arg1.2 (by omega), hs.arg2.2 (by omega), ?_⟩
  by_cases h0 : (N i).fn = 0
  · exact h0
  · have := hs.app h0; omega
theorem ofR_total {n : Nat} {N : Nat → Nd} (h : CheckP n N) : ∀ (i : Nat) (_ : i < n) (k : Int), ∃ r, OfR N i k r := by
  intro i
  induction i using Nat.strongRecOn with
  | _ i ih =>
    intro hi k
    by_cases h11 : (N i).op = 11
    · cases hok : addOk k (N i).num with
      | true =>
        obtain ⟨_, ha, _⟩ := h.add hi h11
        obtain ⟨r, hr⟩ := ih (N i).a0.toNat (by omega) (by omega) (k + (N i).num)
        exact ⟨r, .add h11 hok hr⟩
      | false => exact ⟨_, .addNo h11 hok⟩
    · by_cases h10 : (N i).op = 10
      · cases hok : addOk k (N i).num with
        | true => exact ⟨_, .num h10 hok⟩
        | false => exact ⟨_, .numNo h10 hok⟩
      · exact ⟨_, .base h11 h10⟩
theorem ofR_det {N : Nat → Nd} {i : Nat} {k : Int} {r r' : Option (Nat × Int)} (h : OfR N i k r) (h' : OfR N i k r') : r = r' := by
  induction h generalizing r' with
  | add h ok t ih =>
    cases h' with
    | add _ _ t' => exact ih t'
    | addNo _ no => rw [ok] at no; cases no
    | num h' => omega
    | numNo h' => omega
    | base h1 => exact absurd h h1
  | addNo h no =>
    cases h' with
    | add _ ok => rw [ok] at no; cases no
    | addNo => rfl
    | num h' => omega
    | numNo => rfl
    | base h1 => exact absurd h h1
  | num h ok =>
    cases h' with
    | add h' => omega
    | addNo h' => omega
    | num => rfl
    | numNo _ no => rw [ok] at no; cases no
    | base _ h2 => exact absurd h h2
  | numNo h no =>
    cases h' with
    | add h' => omega
    | addNo => rfl
    | num _ ok => rw [ok] at no; cases no
    | numNo => rfl
    | base _ h2 => exact absurd h h2
  | base h1 h2 =>
    cases h' with
    | add h' => exact absurd h' h1
    | addNo h' => exact absurd h' h1
    | num h' => exact absurd h' h2
    | numNo h' => exact absurd h' h2
    | base => rfl
/-- What Of tells: base, number, error. -/
inductive OfT (n : Nat) (N : Nat → Nd) (id : Int) : Int → Int → Int → Prop
  | arg (h : ¬ (CheckP n N ∧ 0 ≤ id ∧ id < n)) : OfT n N id 0 0 2
  | sort (h : CheckP n N) (i : Nat) (hi : i < n) (e : id = i) (hs : (N i).sort ≠ 1) : OfT n N id 0 0 33
  | over (h : CheckP n N) (i : Nat) (hi : i < n) (e : id = i) (hs : (N i).sort = 1) (ho : OfR N i 0 none) : OfT n N id 0 0 10
  | ok (h : CheckP n N) (i : Nat) (hi : i < n) (e : id = i) (hs : (N i).sort = 1) (b : Nat) (k : Int) (ho : OfR N i 0 (some (b, k))) : OfT n N id b k 0
theorem OfT.good {n : Nat} {N : Nat → Nd} {id b k er : Int} (h : OfT n N id b k er) (he : er = 0) :
    CheckP n N ∧ ∃ i b' : Nat, id = i ∧ i < n ∧ (N i).sort = 1 ∧ b = b' ∧ OfR N i 0 (some (b', k)) := by
  cases h with
  | arg => cases he
  | sort => cases he
  | over => cases he
  | ok h i hi e hs b' k ho => exact ⟨h, i, b', e, hi, hs, rfl, ho⟩
theorem mayB_zero : mayB 0 = true := by decide
theorem OfR.may {N : Nat → Nd} {i : Nat} {k : Int} {r : Option (Nat × Int)} (h : OfR N i k r) (hk : mayB k = true) : ∀ b s, r = some (b, s) → mayB s = true := by
  induction h with
  | add h ok t ih =>
    unfold addOk at ok
    simp only [Bool.and_eq_true] at ok
    exact ih ok.2
  | addNo => intro b s h; cases h
  | num h ok =>
    intro b s e
    unfold addOk at ok
    simp only [Bool.and_eq_true] at ok
    injection e with e
    injection e with e1 e2
    rw [← e2]; exact ok.2
  | numNo => intro b s h; cases h
  | base => intro b s e; injection e with e; injection e with e1 e2; rw [← e2]; exact hk
theorem OfR.congr {N M : Nat → Nd} {i : Nat} {k : Int} {r : Option (Nat × Int)} (h : OfR N i k r) {n : Nat} (hc : CheckP n N) (hi : i < n) (e : ∀ j, j < n → M j = N j) : OfR M i k r := by
  induction h with
  | add h ok t ih =>
    obtain ⟨_, ha, _⟩ := hc.add hi h
    have := ih (by omega)
    exact .add (by rw [e _ hi]; exact h) (by rw [e _ hi]; exact ok) (by rw [e _ hi]; exact this)
  | addNo h no => exact .addNo (by rw [e _ hi]; exact h) (by rw [e _ hi]; exact no)
  | num h ok => rw [← e _ hi] at h ok ⊢; exact .num h ok
  | numNo h no => exact .numNo (by rw [e _ hi]; exact h) (by rw [e _ hi]; exact no)
  | base h1 h2 => exact .base (by rw [e _ hi]; exact h1) (by rw [e _ hi]; exact h2)
/-- A table in order. -/
structure OrdP (n : Nat) (N : Nat → Nd) : Prop where
  chk : CheckP n N
  ord : ∀ i, i < n → (N i).op = 11 → (N i).num ≠ 0 ∧ (N (N i).a0.toNat).op ≠ 11 ∧ (N (N i).a0.toNat).op ≠ 10
/-- Of, in a table in order. -/
theorem OrdP.of {n : Nat} {N : Nat → Nd} (h : OrdP n N) {i : Nat} (hi : i < n) {b : Nat} {k : Int} (ho : OfR N i 0 (some (b, k))) :
    ((N i).op = 11 ∧ (b : Int) = (N i).a0 ∧ k = (N i).num) ∨ ((N i).op = 10 ∧ b = 1 ∧ k = (N i).num) ∨ ((N i).op ≠ 11 ∧ (N i).op ≠ 10 ∧ b = i ∧ k = 0) := by
  cases ho with
  | add h11 ok t =>
    obtain ⟨_, h1, h2⟩ := h.ord i hi h11
    obtain ⟨_, ha, _⟩ := h.chk.add hi h11
    cases t with
    | add h' => exact absurd h' h1
    | num h' => exact absurd h' h2
    | base => exact .inl ⟨h11, by omega, by omega⟩
  | num h10 ok => exact .inr (.inl ⟨h10, rfl, by omega⟩)
  | base h1 h2 => exact .inr (.inr ⟨h1, h2, rfl, rfl⟩)
theorem nd_ext {x y : Nd} (h0 : x.op = y.op) (h1 : x.len = y.len) (h2 : x.a0 = y.a0) (h3 : x.a1 = y.a1) (h4 : x.a2 = y.a2) (h5 : x.sort = y.sort) (h6 : x.fn = y.fn) (h7 : x.num = y.num) : x = y := by
  cases x; cases y; simp_all
theorem CheckP.inj {n : Nat} {N : Nat → Nd} (h : CheckP n N) {i j : Nat} (hi : i < n) (hj : j < n) (e : N i = N j) : i = j := by
  rcases Nat.lt_trichotomy i j with h1 | h1 | h1
  · exact absurd e (h.once i j h1 hj)
  · exact h1
  · exact absurd e.symm (h.once j i h1 hi)
/-- OffsetOnce's plain law. -/
theorem once_law {n : Nat} {N : Nat → Nd} (h : OrdP n N) {i j : Nat} (hi : i < n) (hj : j < n) (si : (N i).sort = 1) (sj : (N j).sort = 1) {b c : Nat} {k l : Int} (ho : OfR N i 0 (some (b, k))) (ho' : OfR N j 0 (some (c, l))) :
    (b = c ∧ k = l) ↔ i = j := by
  constructor
  · rintro ⟨rfl, rfl⟩
    have h1 : (N 1).op = 10 := by rw [h.chk.zz]; rfl
    rcases h.of hi ho with ⟨o1, a1, n1⟩ | ⟨o1, a1, n1⟩ | ⟨o1, p1, a1, n1⟩ <;> rcases h.of hj ho' with ⟨o2, a2, n2⟩ | ⟨o2, a2, n2⟩ | ⟨o2, p2, a2, n2⟩
    · obtain ⟨u1, _, u2, u3, u4⟩ := h.chk.add hi o1
      obtain ⟨v1, _, v2, v3, v4⟩ := h.chk.add hj o2
      exact h.chk.inj hi hj (nd_ext (by omega) (by omega) (by omega) (by omega) (by omega) (by omega) (by omega) (by omega))
    · have := (h.ord i hi o1).2.2
      rw [← a1, a2] at this
      exact absurd h1 this
    · exact absurd (n1.symm.trans n2) (h.ord i hi o1).1
    · have := (h.ord j hj o2).2.2
      rw [← a2, a1] at this
      exact absurd h1 this
    · obtain ⟨u1, u0, u2, u3, u4⟩ := h.chk.nums hi o1
      obtain ⟨v1, v0, v2, v3, v4⟩ := h.chk.nums hj o2
      exact h.chk.inj hi hj (nd_ext (by omega) (by omega) (by omega) (by omega) (by omega) (by omega) (by omega) (by omega))
    · rw [← a2, a1] at p2; exact absurd h1 p2
    · exact absurd (n2.symm.trans n1) (h.ord j hj o2).1
    · rw [← a1, a2] at p1; exact absurd h1 p1
    · omega
  · rintro rfl
    have := ofR_det ho ho'
    injection this with this
    injection this with e1 e2
    exact ⟨e1, e2⟩
end Go.Proofs.Ytecmoahadckomaa
