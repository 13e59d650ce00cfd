/- Plain: what a signature that may be is. No program in sight. -/
import Derived.Test.YthkbekfdjfmmbaaZSigW
namespace Go.Proofs.Ythkbekfdjfmmbaa

theorem addN_iff {S : ByteArray × Bool → Bool} {i j : ByteArray × Bool} : addN S i j = true ↔ j = i ∨ S j = true := by unfold addN; rw [Bool.or_eq_true, decide_eq_true_iff]
theorem SSn_iff (g : Sg) (k : Nat) (s : ByteArray) (b : Bool) : SSn g k (s, b) = true ↔ b = true ∧ (s = boolS ∨ s = intS ∨ ∃ i, i < k ∧ g.S i = s) := by
  induction k with
  | zero =>
    show bltn (s, b) = true ↔ _
    unfold bltn
    rw [Bool.and_eq_true, Bool.or_eq_true, eqS_iff, eqS_iff]
    constructor
    · rintro ⟨h1, h2 | h2⟩
      · exact ⟨h1, .inl h2.symm⟩
      · exact ⟨h1, .inr (.inl h2.symm)⟩
    · rintro ⟨h1, h2 | h2 | ⟨i, hi, _⟩⟩
      · exact ⟨h1, .inl h2.symm⟩
      · exact ⟨h1, .inr h2.symm⟩
      · omega
  | succ k ih =>
    show addN (SSn g k) (g.S k, true) (s, b) = true ↔ _
    rw [addN_iff, ih]
    constructor
    · rintro (h | ⟨h1, h2 | h2 | ⟨i, hi, h2⟩⟩)
      · injection h with h1 h2
        exact ⟨h2, .inr (.inr ⟨k, by omega, h1.symm⟩)⟩
      · exact ⟨h1, .inl h2⟩
      · exact ⟨h1, .inr (.inl h2)⟩
      · exact ⟨h1, .inr (.inr ⟨i, by omega, h2⟩)⟩
    · rintro ⟨rfl, h2 | h2 | ⟨i, hi, h2⟩⟩
      · exact .inr ⟨rfl, .inl h2⟩
      · exact .inr ⟨rfl, .inr (.inl h2)⟩
      · by_cases e : i = k
        · subst e; exact .inl (by rw [h2])
        · exact .inr ⟨rfl, .inr (.inr ⟨i, by omega, h2⟩)⟩
theorem SFn_iff (g : Sg) (k : Nat) (s : ByteArray) : SFn g k (s, false) = true ↔ ∃ i, i < k ∧ (g.F i).name = s := by
  induction k with
  | zero =>
    show SSn g g.ns (s, false) = true ↔ _
    rw [SSn_iff]
    constructor
    · rintro ⟨h, _⟩; cases h
    · rintro ⟨i, hi, _⟩; omega
  | succ k ih =>
    show addN (SFn g k) ((g.F k).name, false) (s, false) = true ↔ _
    rw [addN_iff, ih]
    constructor
    · rintro (h | ⟨i, hi, h2⟩)
      · injection h with h1 _
        exact ⟨k, by omega, h1.symm⟩
      · exact ⟨i, by omega, h2⟩
    · rintro ⟨i, hi, h2⟩
      by_cases e : i = k
      · subst e; exact .inl (by rw [h2])
      · exact .inr ⟨i, by omega, h2⟩
theorem SMn_iff (g : Sg) (k : Nat) (s : ByteArray) : SMn g k (s, false) = true ↔ (∃ i, i < g.nf ∧ (g.F i).name = s) ∨ ∃ i, i < k ∧ (g.M i).name = s := by
  induction k with
  | zero =>
    show SFn g g.nf (s, false) = true ↔ _
    rw [SFn_iff]
    constructor
    · exact .inl
    · rintro (h | ⟨i, hi, _⟩)
      · exact h
      · omega
  | succ k ih =>
    show addN (SMn g k) ((g.M k).name, false) (s, false) = true ↔ _
    rw [addN_iff, ih]
    constructor
    · rintro (h | h | ⟨i, hi, h2⟩)
      · injection h with h1 _
        exact .inr ⟨k, by omega, h1.symm⟩
      · exact .inl h
      · exact .inr ⟨i, by omega, h2⟩
    · rintro (h | ⟨i, hi, h2⟩)
      · exact .inr (.inl h)
      · by_cases e : i = k
        · subst e; exact .inl (by rw [h2])
        · exact .inr (.inr ⟨i, by omega, h2⟩)

/-- A signature that may be. -/
structure CheckG (g : Sg) : Prop where
  ns : g.ns ≤ 4
  nf : g.nf ≤ 12
  nm : g.nm ≤ 12
  sort : ∀ i, i < g.ns → useS (g.S i) = true ∧ g.S i ≠ boolS ∧ g.S i ≠ intS ∧ ∀ k, k < i → g.S k ≠ g.S i
  fn : ∀ i, i < g.nf → useS (g.F i).name = true ∧ coreS (g.F i).name = false ∧ (∀ k, k < i → (g.F k).name ≠ (g.F i).name) ∧ funB g.ns (g.F i) = true
  mc : ∀ i, i < g.nm → useS (g.M i).name = true ∧ coreS (g.M i).name = false ∧ (∀ k, k < g.nf → (g.F k).name ≠ (g.M i).name) ∧ (∀ k, k < i → (g.M k).name ≠ (g.M i).name) ∧ macB g.ns (g.M i) = true
theorem frB_iff (S : ByteArray × Bool → Bool) (s : ByteArray) (b : Bool) : frB S s b = true ↔ useS s = true ∧ S (s, b) = false ∧ (b = true ∨ coreS s = false) := by
  unfold frB
  rw [Bool.and_eq_true, Bool.and_eq_true, Bool.or_eq_true]
  simp [and_assoc]
theorem okSn_iff (g : Sg) (i : Nat) : okSn g i = true ↔ useS (g.S i) = true ∧ g.S i ≠ boolS ∧ g.S i ≠ intS ∧ ∀ k, k < i → g.S k ≠ g.S i := by
  unfold okSn
  rw [frB_iff, Bool.eq_false_iff, Ne, SSn_iff]
  constructor
  · rintro ⟨h1, h2, _⟩
    exact ⟨h1, fun h => h2 ⟨rfl, .inl h⟩, fun h => h2 ⟨rfl, .inr (.inl h)⟩, fun k hk h => h2 ⟨rfl, .inr (.inr ⟨k, hk, h⟩)⟩⟩
  · rintro ⟨h1, h2, h3, h4⟩
    refine ⟨h1, ?_, .inl rfl⟩
    rintro ⟨_, h | h | ⟨k, hk, h⟩⟩
    · exact h2 h
    · exact h3 h
    · exact h4 k hk h
theorem okFn_iff (g : Sg) (i : Nat) : okFn g i = true ↔ useS (g.F i).name = true ∧ coreS (g.F i).name = false ∧ (∀ k, k < i → (g.F k).name ≠ (g.F i).name) ∧ funB g.ns (g.F i) = true := by
  unfold okFn
  rw [Bool.and_eq_true, frB_iff, Bool.eq_false_iff, Ne, SFn_iff]
  constructor
  · rintro ⟨⟨h1, h2, h3⟩, h4⟩
    refine ⟨h1, ?_, fun k hk h => h2 ⟨k, hk, h⟩, h4⟩
    rcases h3 with h3 | h3
    · cases h3
    · exact h3
  · rintro ⟨h1, h2, h3, h4⟩
    exact ⟨⟨h1, fun ⟨k, hk, h⟩ => h3 k hk h, .inr h2⟩, h4⟩
theorem okMn_iff (g : Sg) (i : Nat) : okMn g i = true ↔ useS (g.M i).name = true ∧ coreS (g.M i).name = false ∧ (∀ k, k < g.nf → (g.F k).name ≠ (g.M i).name) ∧ (∀ k, k < i → (g.M k).name ≠ (g.M i).name) ∧ macB g.ns (g.M i) = true := by
  unfold okMn
  rw [Bool.and_eq_true, frB_iff, Bool.eq_false_iff, Ne, SMn_iff]
  constructor
  · rintro ⟨⟨h1, h2, h3⟩, h4⟩
    refine ⟨h1, ?_, fun k hk h => h2 (.inl ⟨k, hk, h⟩), fun k hk h => h2 (.inr ⟨k, hk, h⟩), h4⟩
    rcases h3 with h3 | h3
    · cases h3
    · exact h3
  · rintro ⟨h1, h2, h3, h4, h5⟩
    refine ⟨⟨h1, ?_, .inr h2⟩, h5⟩
    rintro (⟨k, hk, h⟩ | ⟨k, hk, h⟩)
    · exact h3 k hk h
    · exact h4 k hk h
theorem checkG_iff (g : Sg) : checkG g = true ↔ CheckG g := by
  unfold checkG fewG
  rw [Bool.and_eq_true, Bool.and_eq_true, Bool.and_eq_true, Bool.and_eq_true, Bool.and_eq_true, decide_eq_true_iff, decide_eq_true_iff, decide_eq_true_iff, upTo_iff, upTo_iff, upTo_iff]
  constructor
  · rintro ⟨⟨⟨⟨⟨h1, h2⟩, h3⟩, h4⟩, h5⟩, h6⟩
    exact ⟨h1, h2, h3, fun i hi => (okSn_iff g i).1 (h4 i hi), fun i hi => (okFn_iff g i).1 (h5 i hi), fun i hi => (okMn_iff g i).1 (h6 i hi)⟩
  · intro h
    exact ⟨⟨⟨⟨⟨h.ns, h.nf⟩, h.nm⟩, fun i hi => (okSn_iff g i).2 (h.sort i hi)⟩, fun i hi => (okFn_iff g i).2 (h.fn i hi)⟩, fun i hi => (okMn_iff g i).2 (h.mc i hi)⟩

end Go.Proofs.Ythkbekfdjfmmbaa
