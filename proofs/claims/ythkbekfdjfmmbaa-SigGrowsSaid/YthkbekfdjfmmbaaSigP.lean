/- Plain laws: what adding to a signature that may be makes of it. No program in sight. -/
import Derived.Test.YthkbekfdjfmmbaaSigI
namespace Go.Proofs.Ythkbekfdjfmmbaa

theorem addN_iff {S : ByteArray × Bool → Bool} {i j : ByteArray × Bool} : addN S i j = true ↔ j = i ∨ S j = true := by unfold addN; rw [Bool.or_eq_true, decide_eq_true_iff]
theorem SSn_iff (g : Sg) (k : Nat) (s : ByteArray) (b : Bool) : SSn g k (s, b) = true ↔ b = true ∧ (s = boolS ∨ s = intS ∨ ∃ i, i < k ∧ g.S i = s) := by
  induction k with
  | zero =>
    show bltn (s, b) = true ↔ _
    unfold bltn
    rw [Bool.and_eq_true, Bool.or_eq_true, eqS_iff, eqS_iff]
    constructor
    · rintro ⟨h1, h2 | h2⟩
      · exact ⟨h1, .inl h2.symm⟩
      · exact ⟨h1, .inr (.inl h2.symm)⟩
    · rintro ⟨h1, h2 | h2 | ⟨i, hi, _⟩⟩
      · exact ⟨h1, .inl h2.symm⟩
      · exact ⟨h1, .inr h2.symm⟩
      · omega
  | succ k ih =>
    show addN (SSn g k) (g.S k, true) (s, b) = true ↔ _
    rw [addN_iff, ih]
    constructor
    · rintro (h | ⟨h1, h2 | h2 | ⟨i, hi, h2⟩⟩)
      · injection h with h1 h2
        exact ⟨h2, .inr (.inr ⟨k, by omega, h1.symm⟩)⟩
      · exact ⟨h1, .inl h2⟩
      · exact ⟨h1, .inr (.inl h2)⟩
      · exact ⟨h1, .inr (.inr ⟨i, by omega, h2⟩)⟩
    · rintro ⟨rfl, h2 | h2 | ⟨i, hi, h2⟩⟩
      · exact .inr ⟨rfl, .inl h2⟩
      · exact .inr ⟨rfl, .inr (.inl h2)⟩
      · by_cases e : i = k
        · subst e; exact .inl (by rw [h2])
        · exact .inr ⟨rfl, .inr (.inr ⟨i, by omega, h2⟩)⟩
theorem SFn_iff (g : Sg) (k : Nat) (s : ByteArray) : SFn g k (s, false) = true ↔ ∃ i, i < k ∧ (g.F i).name = s := by
  induction k with
  | zero =>
    show SSn g g.ns (s, false) = true ↔ _
    rw [SSn_iff]
    constructor
    · rintro ⟨h, _⟩; cases h
    · rintro ⟨i, hi, _⟩; omega
  | succ k ih =>
    show addN (SFn g k) ((g.F k).name, false) (s, false) = true ↔ _
    rw [addN_iff, ih]
    constructor
    · rintro (h | ⟨i, hi, h2⟩)
      · injection h with h1 _
        exact ⟨k, by omega, h1.symm⟩
      · exact ⟨i, by omega, h2⟩
    · rintro ⟨i, hi, h2⟩
      by_cases e : i = k
      · subst e; exact .inl (by rw [h2])
      · exact .inr ⟨i, by omega, h2⟩
theorem SMn_iff (g : Sg) (k : Nat) (s : ByteArray) : SMn g k (s, false) = true ↔ (∃ i, i < g.nf ∧ (g.F i).name = s) ∨ ∃ i, i < k ∧ (g.M i).name = s := by
  induction k with
  | zero =>
    show SFn g g.nf (s, false) = true ↔ _
    rw [SFn_iff]
    constructor
    · exact .inl
    · rintro (h | ⟨i, hi, _⟩)
      · exact h
      · omega
  | succ k ih =>
    show addN (SMn g k) ((g.M k).name, false) (s, false) = true ↔ _
    rw [addN_iff, ih]
    constructor
    · rintro (h | h | ⟨i, hi, h2⟩)
      · injection h with h1 _
        exact .inr ⟨k, by omega, h1.symm⟩
      · exact .inl h
      · exact .inr ⟨i, by omega, h2⟩
    · rintro (h | ⟨i, hi, h2⟩)
      · exact .inr (.inl h)
      · by_cases e : i = k
        · subst e; exact .inl (by rw [h2])
        · exact .inr (.inr ⟨i, by omega, h2⟩)

/-- A signature that may be. -/
structure CheckG (g : Sg) : Prop where
  ns : g.ns ≤ 4
  nf : g.nf ≤ 12
  nm : g.nm ≤ 12
  sort : ∀ i, i < g.ns → useS (g.S i) = true ∧ g.S i ≠ boolS ∧ g.S i ≠ intS ∧ ∀ k, k < i → g.S k ≠ g.S i
  fn : ∀ i, i < g.nf → useS (g.F i).name = true ∧ coreS (g.F i).name = false ∧ (∀ k, k < i → (g.F k).name ≠ (g.F i).name) ∧ funB g.ns (g.F i) = true
  mc : ∀ i, i < g.nm → useS (g.M i).name = true ∧ coreS (g.M i).name = false ∧ (∀ k, k < g.nf → (g.F k).name ≠ (g.M i).name) ∧ (∀ k, k < i → (g.M k).name ≠ (g.M i).name) ∧ macB g.ns (g.M i) = true
theorem frB_iff (S : ByteArray × Bool → Bool) (s : ByteArray) (b : Bool) : frB S s b = true ↔ useS s = true ∧ S (s, b) = false ∧ (b = true ∨ coreS s = false) := by
  unfold frB
  rw [Bool.and_eq_true, Bool.and_eq_true, Bool.or_eq_true]
  simp [and_assoc]
theorem okSn_iff (g : Sg) (i : Nat) : okSn g i = true ↔ useS (g.S i) = true ∧ g.S i ≠ boolS ∧ g.S i ≠ intS ∧ ∀ k, k < i → g.S k ≠ g.S i := by
  unfold okSn
  rw [frB_iff, Bool.eq_false_iff, Ne, SSn_iff]
  constructor
  · rintro ⟨h1, h2, _⟩
    exact ⟨h1, fun h => h2 ⟨rfl, .inl h⟩, fun h => h2 ⟨rfl, .inr (.inl h)⟩, fun k hk h => h2 ⟨rfl, .inr (.inr ⟨k, hk, h⟩)⟩⟩
  · rintro ⟨h1, h2, h3, h4⟩
    refine ⟨h1, ?_, .inl rfl⟩
    rintro ⟨_, h | h | ⟨k, hk, h⟩⟩
    · exact h2 h
    · exact h3 h
    · exact h4 k hk h
theorem okFn_iff (g : Sg) (i : Nat) : okFn g i = true ↔ useS (g.F i).name = true ∧ coreS (g.F i).name = false ∧ (∀ k, k < i → (g.F k).name ≠ (g.F i).name) ∧ funB g.ns (g.F i) = true := by
  unfold okFn
  rw [Bool.and_eq_true, frB_iff, Bool.eq_false_iff, Ne, SFn_iff]
  constructor
  · rintro ⟨⟨h1, h2, h3⟩, h4⟩
    refine ⟨h1, ?_, fun k hk h => h2 ⟨k, hk, h⟩, h4⟩
    rcases h3 with h3 | h3
    · cases h3
    · exact h3
  · rintro ⟨h1, h2, h3, h4⟩
    exact ⟨⟨h1, fun ⟨k, hk, h⟩ => h3 k hk h, .inr h2⟩, h4⟩
theorem okMn_iff (g : Sg) (i : Nat) : okMn g i = true ↔ useS (g.M i).name = true ∧ coreS (g.M i).name = false ∧ (∀ k, k < g.nf → (g.F k).name ≠ (g.M i).name) ∧ (∀ k, k < i → (g.M k).name ≠ (g.M i).name) ∧ macB g.ns (g.M i) = true := by
  unfold okMn
  rw [Bool.and_eq_true, frB_iff, Bool.eq_false_iff, Ne, SMn_iff]
  constructor
  · rintro ⟨⟨h1, h2, h3⟩, h4⟩
    refine ⟨h1, ?_, fun k hk h => h2 (.inl ⟨k, hk, h⟩), fun k hk h => h2 (.inr ⟨k, hk, h⟩), h4⟩
    rcases h3 with h3 | h3
    · cases h3
    · exact h3
  · rintro ⟨h1, h2, h3, h4, h5⟩
    refine ⟨⟨h1, ?_, .inr h2⟩, h5⟩
    rintro (⟨k, hk, h⟩ | ⟨k, hk, h⟩)
    · exact h3 k hk h
    · exact h4 k hk h
theorem checkG_iff (g : Sg) : checkG g = true ↔ CheckG g := by
  unfold checkG fewG
  rw [Bool.and_eq_true, Bool.and_eq_true, Bool.and_eq_true, Bool.and_eq_true, Bool.and_eq_true, decide_eq_true_iff, decide_eq_true_iff, decide_eq_true_iff, upTo_iff, upTo_iff, upTo_iff]
  constructor
  · rintro ⟨⟨⟨⟨⟨h1, h2⟩, h3⟩, h4⟩, h5⟩, h6⟩
    exact ⟨h1, h2, h3, fun i hi => (okSn_iff g i).1 (h4 i hi), fun i hi => (okFn_iff g i).1 (h5 i hi), fun i hi => (okMn_iff g i).1 (h6 i hi)⟩
  · intro h
    exact ⟨⟨⟨⟨⟨h.ns, h.nf⟩, h.nm⟩, fun i hi => (okSn_iff g i).2 (h.sort i hi)⟩, fun i hi => (okFn_iff g i).2 (h.fn i hi)⟩, fun i hi => (okMn_iff g i).2 (h.mc i hi)⟩

theorem firstI_neg {n : Nat} {p : Nat → Bool} : ¬ 0 ≤ firstI n p ↔ ∀ i, i < n → p i = false := by
  rcases firstI_cases n p with ⟨h1, h2⟩ | ⟨j, hj, h1, h2, _⟩
  · rw [h1]; exact ⟨fun _ => h2, fun _ => by omega⟩
  · rw [h1]
    constructor
    · intro h; omega
    · intro h; rw [h j hj] at h2; cases h2
theorem firstI_pos {n : Nat} {p : Nat → Bool} {j : Nat} (hj : j < n) (hp : p j = true) : 0 ≤ firstI n p := by
  rcases firstI_cases n p with ⟨_, h2⟩ | ⟨i, _, h1, _, _⟩
  · rw [h2 j hj] at hp; cases hp
  · omega
theorem freeI_sort {g : Sg} {name : ByteArray} (h : freeI g name true = 0) : useS name = true ∧ name ≠ boolS ∧ name ≠ intS ∧ ∀ i, i < g.ns → g.S i ≠ name := by
  unfold freeI at h
  cases hu : useS name with
  | false => rw [hu] at h; exact absurd (show (31 : Int) = 0 from h) (by decide)
  | true =>
    rw [hu] at h
    have ht : takenB g name true = false := by
      cases ht : takenB g name true with
      | false => rfl
      | true => rw [ht] at h; exact absurd h (by decide)
    have hn : ¬ 0 ≤ sortI g name := by
      unfold takenB at ht
      simpa using ht
    have hp := firstI_neg.1 hn
    have h0 := hp 0 (by omega)
    have h1 := hp 1 (by omega)
    refine ⟨rfl, fun e => ?_, fun e => ?_, fun i hi e => ?_⟩
    · subst e; rw [show sortN g 0 = boolS from rfl, eqS_self] at h0; cases h0
    · subst e; rw [show sortN g 1 = intS from rfl, eqS_self] at h1; cases h1
    · have := hp (i + 2) (by omega)
      rw [show sortN g (i + 2) = g.S i by unfold sortN; rw [if_neg (by omega)]; rfl, e, eqS_self] at this
      cases this
theorem freeI_fun {g : Sg} {name : ByteArray} (h : freeI g name false = 0) : useS name = true ∧ coreS name = false ∧ (∀ i, i < g.nf → (g.F i).name ≠ name) ∧ ∀ i, i < g.nm → (g.M i).name ≠ name := by
  unfold freeI at h
  cases hu : useS name with
  | false => rw [hu] at h; exact absurd (show (31 : Int) = 0 from h) (by decide)
  | true =>
    rw [hu] at h
    have ht : takenB g name false = false := by
      cases ht : takenB g name false with
      | false => rfl
      | true => rw [ht] at h; exact absurd h (by decide)
    unfold takenB at ht
    simp only [Bool.false_eq_true, if_false, Bool.or_eq_false_iff, decide_eq_false_iff_not] at ht
    obtain ⟨⟨hf, hm⟩, hc⟩ := ht
    have hf' := firstI_neg.1 hf
    have hm' := firstI_neg.1 hm
    refine ⟨rfl, hc, fun i hi e => ?_, fun i hi e => ?_⟩
    · have := hf' i hi; rw [e, eqS_self] at this; cases this
    · have := hm' i hi; rw [e, eqS_self] at this; cases this

theorem addI_zero {g : Sg} {name : ByteArray} {sort may : Bool} {many most : Int} (h : addI g name sort may many most = 0) : CheckG g ∧ freeI g name sort = 0 ∧ may = true ∧ many ≠ most := by
  unfold addI at h
  by_cases hc : checkG g = false
  · rw [if_pos hc] at h; omega
  · rw [if_neg hc] at h
    by_cases hf : freeI g name sort = 0
    · rw [if_neg (fun h' => h' hf)] at h
      by_cases hm : may = false
      · rw [if_pos hm] at h; omega
      · rw [if_neg hm] at h
        by_cases hq : many = most
        · rw [if_pos hq] at h; omega
        · exact ⟨(checkG_iff g).1 (by simpa using hc), hf, by simpa using hm, hq⟩
    · rw [if_pos hf] at h; exact absurd h hf
theorem thereB_mono {ns : Nat} {x : Int} (h : thereB ns x = true) : thereB (ns + 1) x = true := by unfold thereB at *; simp at *; omega
theorem fargB_mono {ns : Nat} {f : Fn} {i : Nat} (h : fargB ns f i = true) : fargB (ns + 1) f i = true := by
  unfold fargB at *
  split at h
  · next hl => rw [if_pos hl]; exact thereB_mono h
  · next hl => rw [if_neg hl]; exact h
theorem funB_mono {ns : Nat} {f : Fn} (h : funB ns f = true) : funB (ns + 1) f = true := by
  unfold funB at *
  rw [Bool.and_eq_true, Bool.and_eq_true] at *
  exact ⟨⟨h.1.1, thereB_mono h.1.2⟩, upTo_yes fun i hi => fargB_mono ((upTo_iff _ _).1 h.2 i hi)⟩
theorem macB_mono {ns : Nat} {m : Mc} (h : macB ns m = true) : macB (ns + 1) m = true := by
  unfold macB at *
  rw [Bool.and_eq_true, Bool.and_eq_true, Bool.and_eq_true] at *
  refine ⟨⟨⟨upTo_yes fun i hi => ?_, h.1.1.2⟩, thereB_mono h.1.2⟩, h.2⟩
  have := (upTo_iff _ _).1 h.1.1.1 i hi
  unfold pmB at *
  rw [Bool.and_eq_true, Bool.and_eq_true] at *
  exact ⟨this.1, thereB_mono this.2⟩
theorem CheckG.addS {g : Sg} (h : CheckG g) {name : ByteArray} (hf : freeI g name true = 0) (hn : (g.ns : Int) ≠ 4) : CheckG (g.addS name) := by
  obtain ⟨f1, f2, f3, f4⟩ := freeI_sort hf
  have hns := h.ns
  have hS : ∀ i, i < g.ns → (g.addS name).S i = g.S i := fun i hi => if_pos hi
  have hSn : (g.addS name).S g.ns = name := if_neg (Nat.lt_irrefl _)
  refine ⟨?_, h.nf, h.nm, fun i hi => ?_, fun i hi => ?_, fun i hi => ?_⟩
  · show g.ns + 1 ≤ 4; omega
  · have hi' : i < g.ns + 1 := hi
    by_cases e : i = g.ns
    · subst e
      rw [hSn]
      exact ⟨f1, f2, f3, fun k hk => by rw [hS k hk]; exact f4 k hk⟩
    · have hi2 : i < g.ns := by omega
      rw [hS i hi2]
      obtain ⟨s1, s2, s3, s4⟩ := h.sort i hi2
      exact ⟨s1, s2, s3, fun k hk => by rw [hS k (by omega)]; exact s4 k hk⟩
  · obtain ⟨s1, s2, s3, s4⟩ := h.fn i hi
    exact ⟨s1, s2, s3, funB_mono s4⟩
  · obtain ⟨s1, s2, s3, s4, s5⟩ := h.mc i hi
    exact ⟨s1, s2, s3, s4, macB_mono s5⟩
theorem CheckG.addF {g : Sg} (h : CheckG g) {f : Fn} (hf : freeI g f.name false = 0) (hb : funB g.ns f = true) (hn : (g.nf : Int) ≠ 12) : CheckG (g.addF f) := by
  obtain ⟨f1, f2, f3, f4⟩ := freeI_fun hf
  have hnf := h.nf
  have hF : ∀ i, i < g.nf → (g.addF f).F i = g.F i := fun i hi => if_pos hi
  have hFn : (g.addF f).F g.nf = f := if_neg (Nat.lt_irrefl _)
  refine ⟨h.ns, ?_, h.nm, h.sort, fun i hi => ?_, fun i hi => ?_⟩
  · show g.nf + 1 ≤ 12; omega
  · have hi' : i < g.nf + 1 := hi
    by_cases e : i = g.nf
    · subst e
      rw [hFn]
      exact ⟨f1, f2, fun k hk => by rw [hF k hk]; exact f3 k hk, hb⟩
    · have hi2 : i < g.nf := by omega
      rw [hF i hi2]
      obtain ⟨s1, s2, s3, s4⟩ := h.fn i hi2
      exact ⟨s1, s2, fun k hk => by rw [hF k (by omega)]; exact s3 k hk, s4⟩
  · obtain ⟨s1, s2, s3, s4, s5⟩ := h.mc i hi
    refine ⟨s1, s2, fun k hk => ?_, s4, s5⟩
    have hk' : k < g.nf + 1 := hk
    by_cases e : k = g.nf
    · subst e; rw [hFn]; exact fun e => f4 i hi e.symm
    · rw [hF k (by omega)]; exact s3 k (by omega)
theorem freeI_there {g : Sg} {name : ByteArray} {sort : Bool} (hu : useS name = true) (ht : takenB g name sort = true) : freeI g name sort = 32 := by unfold freeI; rw [hu, ht]; rfl
theorem addI_there {g : Sg} {name : ByteArray} {sort may : Bool} {many most : Int} (hc : CheckG g) (hf : freeI g name sort = 32) : addI g name sort may many most = 32 := by
  unfold addI
  rw [if_neg (by rw [(checkG_iff g).2 hc]; simp), if_pos (by omega), hf]
/-- What was added is there. -/
theorem twice_sort {g : Sg} {name : ByteArray} (h : addI g name true true g.ns 4 = 0) : addI (g.addS name) name true true ((g.addS name).ns : Nat) 4 = 32 := by
  obtain ⟨hc, hf, _, hn⟩ := addI_zero h
  obtain ⟨hu, _, _, _⟩ := freeI_sort hf
  refine addI_there (hc.addS hf hn) (freeI_there hu ?_)
  have : 0 ≤ sortI (g.addS name) name := firstI_pos (j := g.ns + 2) (by show g.ns + 2 < g.ns + 1 + 2; omega) (by
    have : sortN (g.addS name) (g.ns + 2) = name := by
      unfold sortN
      rw [if_neg (by omega)]
      show (if g.ns + 2 - 2 < g.ns then _ else name) = name
      rw [if_neg (by omega)]
    rw [this, eqS_self])
  unfold takenB
  rw [if_pos rfl]
  exact decide_eq_true this
theorem twice_taken {g : Sg} {f : Fn} : takenB (g.addF f) f.name false = true := by
  have : 0 ≤ funI (g.addF f) f.name := firstI_pos (j := g.nf) (by show g.nf < g.nf + 1; omega) (by
    have : (g.addF f).F g.nf = f := if_neg (Nat.lt_irrefl _)
    rw [this, eqS_self])
  unfold takenB
  rw [decide_eq_true this]; rfl
theorem twice_fun {g : Sg} {f : Fn} (h : afI g f = 0) : afI (g.addF f) f = 32 ∧ ∀ m : Mc, m.name = f.name → amI (g.addF f) m = 32 := by
  obtain ⟨hc, hf, hb, hn⟩ := addI_zero h
  obtain ⟨hu, _, _, _⟩ := freeI_fun hf
  have hc' := hc.addF hf hb hn
  refine ⟨addI_there hc' (freeI_there hu twice_taken), fun m hm => ?_⟩
  unfold amI
  rw [hm]
  exact addI_there hc' (freeI_there hu twice_taken)
theorem few_addS {g : Sg} {name : ByteArray} (h : CheckG (g.addS name)) : FewG (g.addS name) := ⟨by have := h.ns; omega, by have := h.nf; omega, by have := h.nm; omega⟩
theorem few_addF {g : Sg} {f : Fn} (h : CheckG (g.addF f)) : FewG (g.addF f) := ⟨by have := h.ns; omega, by have := h.nf; omega, by have := h.nm; omega⟩
end Go.Proofs.Ythkbekfdjfmmbaa
