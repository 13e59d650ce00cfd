/- Plain law: what the rounds come to. Where it ends without a fall potentials hold, and are the greatest that hold and are at most 0; where it does not, the edges by which nodes were come to lead round, and come to less than 0. -/
import Derived.Test.YtioceechdombjaaBell
namespace Go.Proofs.Ytioceechdombjaa

/-- Numbers that hold. -/
def Feas (E : Nat → Ed) (m : Nat) (x : Nat → Int) : Prop := ∀ i, i < m → x (E i).dst.toNat ≤ x (E i).src.toNat + (E i).wt

def prd (E : Nat → Ed) (b : Nat → Int) (v : Nat) : Nat := (E (b v).toNat).src.toNat
def itr (E : Nat → Ed) (b : Nat → Int) : Nat → Nat → Nat
  | 0, v => v
  | j + 1, v => prd E b (itr E b j v)
def wby (E : Nat → Ed) (b : Nat → Int) (v : Nat) : Int := (E (b v).toNat).wt

theorem itr_add (E : Nat → Ed) (b : Nat → Int) (i j v : Nat) : itr E b (i + j) v = itr E b i (itr E b j v) := by
  induction i with
  | zero => rw [Nat.zero_add]; rfl
  | succ i ih => rw [Nat.add_right_comm]; show prd E b (itr E b (i + j) v) = prd E b (itr E b i (itr E b j v)); rw [ih]

/-- What holds in round t (from 1 on), the edges below k being done; L: the round in which each node fell last. -/
structure Inv (E : Nat → Ed) (m t k : Nat) (s : BS) (L : Nat → Nat) : Prop where
  root : ∀ v, s.b v = -1 → s.p v = 0
  rng : ∀ v, s.b v = -1 ∨ (0 ≤ s.b v ∧ s.b v < m ∧ (E (s.b v).toNat).dst.toNat = v)
  drop : ∀ v, 0 ≤ s.b v → s.p (prd E s.b v) + wby E s.b v ≤ s.p v
  cyc : ∀ v k, 1 ≤ k → (∀ j, j < k → 0 ≤ s.b (itr E s.b j v)) → itr E s.b k v = v → ∃ j, j < k ∧ s.p (itr E s.b (j + 1) v) + wby E s.b (itr E s.b j v) < s.p (itr E s.b j v)
  lv : ∀ v, 1 ≤ L v → 0 ≤ s.b v
  step : ∀ v, 0 ≤ s.b v → L v ≤ L (prd E s.b v) + 1
  le : ∀ v, L v ≤ t
  done : ∀ i, i < k → s.p (E i).dst.toNat ≤ s.p (E i).src.toNat + (E i).wt ∨ L (E i).src.toNat = t
  todo : ∀ i, k ≤ i → i < m → t ≤ 1 ∨ s.p (E i).dst.toNat ≤ s.p (E i).src.toNat + (E i).wt ∨ t - 1 ≤ L (E i).src.toNat

theorem upd_same (f : Nat → Int) (i : Nat) (x : Int) : upd f i x i = x := by simp [upd]
theorem upd_other (f : Nat → Int) {i j : Nat} (x : Int) (h : j ≠ i) : upd f i x j = f j := by simp [upd, h]

theorem itr_upd {E : Nat → Ed} {b : Nat → Int} {y : Nat} {z : Int} {v : Nat} : ∀ k, (∀ j, j < k → itr E (upd b y z) j v ≠ y) → itr E (upd b y z) k v = itr E b k v := by
  intro k
  induction k with
  | zero => intro _; rfl
  | succ k ih =>
    intro h
    have h1 := ih fun j hj => h j (by omega)
    have h2 := h k (by omega)
    show prd E (upd b y z) (itr E (upd b y z) k v) = prd E b (itr E b k v)
    rw [h1] at h2 ⊢
    unfold prd
    rw [upd_other _ _ h2]

theorem Inv.skip {E : Nat → Ed} {m t k : Nat} {s : BS} {L : Nat → Nat} (h : Inv E m t k s L) (hd : s.p (E k).dst.toNat ≤ s.p (E k).src.toNat + (E k).wt) : Inv E m t (k + 1) s L :=
  { h with
    done := fun i hi => by
      by_cases e : i = k
      · subst e; exact .inl hd
      · exact h.done i (by omega)
    todo := fun i hi => h.todo i (by omega) }

/-- An edge that makes its node fall. -/
theorem Inv.fall {E : Nat → Ed} {m t k : Nat} {s : BS} {L : Nat → Nat} (h : Inv E m t k s L) (hk : k < m) (ht : 1 ≤ t) (hd : s.p (E k).src.toNat + (E k).wt < s.p (E k).dst.toNat) :
    Inv E m t (k + 1) ⟨upd s.p (E k).dst.toNat (s.p (E k).src.toNat + (E k).wt), upd s.b (E k).dst.toNat k⟩ (fun v => if v = (E k).dst.toNat then t else L v) := by
  have hsrc : t - 1 ≤ L (E k).src.toNat := by
    rcases h.todo k (Nat.le_refl _) hk with h1 | h1 | h1
    · omega
    · omega
    · exact h1
  generalize hy : (E k).dst.toNat = y at *
  generalize hx : (E k).src.toNat = x at *
  generalize hz : (E k).wt = z at *
  have hpy : ∀ v, upd s.p y (s.p x + z) v ≤ s.p v := fun v => by
    by_cases e : v = y
    · subst e; rw [upd_same]; omega
    · rw [upd_other _ _ e]; omega
  have hby : ∀ v, v ≠ y → prd E (upd s.b y k) v = prd E s.b v ∧ wby E (upd s.b y k) v = wby E s.b v := fun v e => by
    unfold prd wby; rw [upd_other _ _ e]; exact ⟨rfl, rfl⟩
  have hpy' : prd E (upd s.b y k) y = x ∧ wby E (upd s.b y k) y = z := by
    unfold prd wby; rw [upd_same]; simp [hx, hz]
  refine ⟨?_, ?_, ?_, ?_, ?_, ?_, ?_, ?_, ?_⟩
  · intro v hv
    dsimp only at hv ⊢
    by_cases e : v = y
    · subst e; rw [upd_same] at hv; omega
    · rw [upd_other _ _ e] at hv ⊢; exact h.root v hv
  · intro v
    dsimp only
    by_cases e : v = y
    · subst e; rw [upd_same]; right; exact ⟨by omega, by omega, by simpa using hy⟩
    · rw [upd_other _ _ e]; exact h.rng v
  · intro v hv
    dsimp only at hv ⊢
    by_cases e : v = y
    · subst e
      rw [hpy'.1, hpy'.2, upd_same]
      have := hpy x
      omega
    · rw [(hby v e).1, (hby v e).2, upd_other _ _ e]
      rw [upd_other _ _ e] at hv
      have h1 := h.drop v hv
      have h2 := hpy (prd E s.b v)
      omega
  · intro v c hc hb hit
    dsimp only at hb hit ⊢
    by_cases hon : ∃ j, j < c ∧ itr E (upd s.b y k) j v = y
    · obtain ⟨j, hj, hjy⟩ := hon
      -- the node behind y
      have hprev : ∃ i, i < c ∧ itr E (upd s.b y k) (i + 1) v = y := by
        cases j with
        | zero => exact ⟨c - 1, by omega, by rw [show c - 1 + 1 = c by omega, hit]; exact hjy⟩
        | succ j => exact ⟨j, by omega, hjy⟩
      obtain ⟨i, hi, hiy⟩ := hprev
      refine ⟨i, hi, ?_⟩
      rw [hiy, upd_same]
      generalize hu : itr E (upd s.b y k) i v = u at *
      have hpu : prd E (upd s.b y k) u = y := by rw [← hu]; exact hiy
      by_cases e : u = y
      · subst e
        rw [hpy'.2, upd_same]
        rw [hpy'.1] at hpu
        subst hpu
        omega
      · rw [(hby u e).2, upd_other _ _ e]
        rw [(hby u e).1] at hpu
        have hbu := hb i hi
        rw [hu, upd_other _ _ e] at hbu
        have h1 := h.drop u hbu
        rw [hpu] at h1
        omega
    · have hno : ∀ j, j < c → itr E (upd s.b y k) j v ≠ y := fun j hj e => hon ⟨j, hj, e⟩
      have hsame : ∀ j, j ≤ c → itr E (upd s.b y k) j v = itr E s.b j v := fun j hj => itr_upd j fun i hi => hno i (by omega)
      obtain ⟨j, hj, hlt⟩ := h.cyc v c hc (fun j hj => by
        have h1 := hb j hj
        rw [upd_other _ _ (hno j hj), hsame j (by omega)] at h1
        exact h1) (by rw [← hsame c (Nat.le_refl _)]; exact hit)
      refine ⟨j, hj, ?_⟩
      have hn := hno j hj
      rw [(hby _ hn).2, upd_other _ _ hn, hsame j (by omega), hsame (j + 1) (by omega)]
      have := hpy (itr E s.b (j + 1) v)
      omega
  · intro v hv
    dsimp only at hv ⊢
    by_cases e : v = y
    · subst e; rw [upd_same]; omega
    · rw [if_neg e] at hv; rw [upd_other _ _ e]; exact h.lv v hv
  · intro v hv
    dsimp only at hv ⊢
    by_cases e : v = y
    · subst e
      rw [hpy'.1, if_pos rfl]
      split <;> omega
    · rw [(hby v e).1, if_neg e]
      rw [upd_other _ _ e] at hv
      have h1 := h.step v hv
      have h2 := h.le v
      split <;> omega
  · intro v
    have := h.le v
    show (if v = y then t else L v) ≤ t
    split <;> omega
  · intro i hi
    dsimp only
    by_cases e : i = k
    · subst e
      by_cases exy : x = y
      · right; rw [hx, if_pos exy]
      · left; rw [hy, hx, hz, upd_same, upd_other _ _ exy]; omega
    · by_cases es : (E i).src.toNat = y
      · right; rw [if_pos es]
      · rw [if_neg es]
        rcases h.done i (by omega) with h1 | h1
        · left; rw [upd_other _ _ es]; have := hpy (E i).dst.toNat; omega
        · right; exact h1
  · intro i hi him
    dsimp only
    by_cases es : (E i).src.toNat = y
    · right; right; rw [if_pos es]; omega
    · rw [if_neg es]
      rcases h.todo i (by omega) him with h1 | h1 | h1
      · exact .inl h1
      · right; left; rw [upd_other _ _ es]; have := hpy (E i).dst.toNat; omega
      · right; right; exact h1
theorem Inv.next {E : Nat → Ed} {m t : Nat} {s : BS} {L : Nat → Nat} (h : Inv E m t m s L) : Inv E m (t + 1) 0 s L :=
  { h with
    le := fun v => by have := h.le v; omega
    done := fun i hi => by omega
    todo := fun i _ hi => by
      rcases h.done i hi with h1 | h1
      · exact .inr (.inl h1)
      · right; right; omega }
theorem Inv.start (E : Nat → Ed) (m : Nat) : Inv E m 1 0 ⟨fun _ => 0, fun _ => -1⟩ (fun _ => 0) :=
  { root := fun _ _ => rfl
    rng := fun _ => .inl rfl
    drop := fun v hv => by dsimp only at hv; omega
    cyc := fun v k hk hb _ => by have := hb 0 (by omega); dsimp only at this; omega
    lv := fun v hv => by omega
    step := fun v hv => by omega
    le := fun v => by omega
    done := fun i hi => by omega
    todo := fun i _ _ => .inl (Nat.le_refl _) }

theorem scan_fell {E : Nat → Ed} {s : BS} {k : Nat} (hE : ∀ i, i < k → 0 ≤ (E i).dst) : (scanTo E s k).fell < 0 → scanTo E s k = ⟨s, -1, false⟩ ∧ ∀ i, i < k → s.p (E i).dst.toNat ≤ s.p (E i).src.toNat + (E i).wt := by
  induction k with
  | zero => intro _; exact ⟨rfl, fun i hi => by omega⟩
  | succ k ih =>
    intro h
    have hEk := hE k (by omega)
    by_cases ho : (scanTo E s k).out = true
    · have e : scanTo E s (k + 1) = scanTo E s k := by rw [scanTo, if_pos ho]
      rw [e] at h
      have h1 := (ih (fun i hi => hE i (by omega)) h).1
      rw [h1] at ho; cases ho
    · have ho' : (scanTo E s k).out = false := by simpa using ho
      rw [scan_succ ho'] at h ⊢
      by_cases hd : (scanTo E s k).s.p (E k).src.toNat + (E k).wt < (scanTo E s k).s.p (E k).dst.toNat
      · by_cases h2 : (scanTo E s k).s.p (E k).src.toNat + (E k).wt < -4611686018427387904
        · rw [edge_out hd h2] at h; dsimp only at h; omega
        · rw [edge_in hd (by omega)] at h; dsimp only at h; omega
      · rw [edge_ge (by omega)] at h ⊢
        obtain ⟨h1, h2⟩ := ih (fun i hi => hE i (by omega)) h
        refine ⟨h1, fun i hi => ?_⟩
        by_cases e : i = k
        · subst e; rw [h1] at hd; dsimp only at hd; omega
        · exact h2 i (by omega)

theorem scan_inv {E : Nat → Ed} {m t : Nat} {s : BS} {L : Nat → Nat} (hE : ∀ i, i < m → 0 ≤ (E i).dst) (ht : 1 ≤ t) (h : Inv E m t 0 s L) : ∀ k, k ≤ m →
    ((scanTo E s k).out = false ∧ ∃ L', Inv E m t k (scanTo E s k).s L' ∧ ((scanTo E s k).fell = -1 ∨ 0 ≤ (scanTo E s k).fell ∧ L' (scanTo E s k).fell.toNat = t)) ∨
    ((scanTo E s k).out = true ∧ 0 ≤ (scanTo E s k).fell ∧ (scanTo E s k).s.p (scanTo E s k).fell.toNat < -4611686018427387904 ∧ ∃ k' L', Inv E m t k' (scanTo E s k).s L') := by
  intro k
  induction k with
  | zero => intro _; exact .inl ⟨rfl, L, h, .inl rfl⟩
  | succ k ih =>
    intro hk
    rcases ih (by omega) with ⟨ho, L', hI, hf⟩ | ⟨ho, h1, h2, h3⟩
    · rw [scan_succ ho]
      have hEk := hE k (by omega)
      by_cases hd : (scanTo E s k).s.p (E k).src.toNat + (E k).wt < (scanTo E s k).s.p (E k).dst.toNat
      · have hI' := hI.fall (by omega) ht hd
        by_cases h2 : (scanTo E s k).s.p (E k).src.toNat + (E k).wt < -4611686018427387904
        · rw [edge_out hd h2]
          right
          refine ⟨rfl, hEk, ?_, _, _, hI'⟩
          show upd _ _ _ _ < _
          rw [upd_same]; exact h2
        · rw [edge_in hd (by omega)]
          left
          exact ⟨rfl, _, hI', .inr ⟨hEk, by dsimp only; rw [if_pos rfl]⟩⟩
      · rw [edge_ge (by omega)]
        exact .inl ⟨ho, L', hI.skip (by omega), hf⟩
    · have e : scanTo E s (k + 1) = scanTo E s k := by rw [scanTo, if_pos ho]
      rw [e]
      exact .inr ⟨ho, h1, h2, h3⟩

theorem rounds_inv {E : Nat → Ed} {m : Nat} (hE : ∀ i, i < m → 0 ≤ (E i).dst) : ∀ r,
    ((roundsTo E m r).out = false ∧ 0 ≤ (roundsTo E m r).fell ∧ ∃ L, Inv E m (r + 1) 0 (roundsTo E m r).s L ∧ (1 ≤ r → L (roundsTo E m r).fell.toNat = r)) ∨
    ((roundsTo E m r).out = false ∧ (roundsTo E m r).fell < 0 ∧ Feas E m (roundsTo E m r).s.p) ∨
    ((roundsTo E m r).out = true ∧ 0 ≤ (roundsTo E m r).fell ∧ (roundsTo E m r).s.p (roundsTo E m r).fell.toNat < -4611686018427387904 ∧ ∃ t k L, Inv E m t k (roundsTo E m r).s L) := by
  intro r
  induction r with
  | zero => exact .inl ⟨rfl, Int.le_refl _, _, Inv.start E m, fun h => by omega⟩
  | succ r ih =>
    rcases ih with ⟨ho, hf, L, hI, _⟩ | ⟨ho, hf, hx⟩ | ⟨ho, hf, hp, hI⟩
    · rw [rounds_next ho hf]
      rcases scan_inv hE (by omega) hI m (Nat.le_refl _) with ⟨ho', L', hI', hf'⟩ | ⟨ho', hf', hp', k', L', hI'⟩
      · rcases hf' with hf' | ⟨hf', hL⟩
        · right; left
          have h2 := scan_fell hE (s := (roundsTo E m r).s) (by rw [hf']; decide)
          exact ⟨ho', by rw [hf']; decide, by rw [h2.1]; exact h2.2⟩
        · exact .inl ⟨ho', hf', L', hI'.next, fun _ => hL⟩
      · exact .inr (.inr ⟨ho', hf', hp', _, _, _, hI'⟩)
    · rw [rounds_done (.inr hf) (r + 1) (by omega)]; exact .inr (.inl ⟨ho, hf, hx⟩)
    · rw [rounds_done (.inl ho) (r + 1) (by omega)]; exact .inr (.inr ⟨ho, hf, hp, hI⟩)

/-- Potentials hold where it ends without a fall. -/
theorem relax_feas {n : Nat} {E : Nat → Ed} {m : Nat} (hE : ∀ i, i < m → 0 ≤ (E i).dst) (h : (relaxR n E m).fell < 0) : Feas E m (relaxR n E m).s.p := by
  unfold relaxR at h ⊢
  rcases rounds_inv hE (n + 1) with ⟨_, hf, _⟩ | ⟨_, _, hx⟩ | ⟨_, hf, _⟩
  · omega
  · exact hx
  · omega
/-- Numbers that hold and are at most 0 are at most the potentials, all along. -/
theorem scan_ge {E : Nat → Ed} {m : Nat} {x : Nat → Int} (hx : Feas E m x) {s : BS} (h : ∀ v, x v ≤ s.p v) : ∀ k, k ≤ m → ∀ v, x v ≤ (scanTo E s k).s.p v := by
  intro k
  induction k with
  | zero => intro _; exact h
  | succ k ih =>
    intro hk v
    have h1 := ih (by omega)
    by_cases ho : (scanTo E s k).out = true
    · rw [scanTo, if_pos ho]; exact h1 v
    · rw [scan_succ (by simpa using ho)]
      have hk' := hx k (by omega)
      have hs := h1 (E k).src.toNat
      have key : ∀ v, x v ≤ upd (scanTo E s k).s.p (E k).dst.toNat ((scanTo E s k).s.p (E k).src.toNat + (E k).wt) v := fun v => by
        by_cases e : v = (E k).dst.toNat
        · rw [e, upd_same]; omega
        · rw [upd_other _ _ e]; exact h1 v
      unfold edgeStep
      split
      · split <;> exact key v
      · exact h1 v
theorem rounds_ge {E : Nat → Ed} {m : Nat} {x : Nat → Int} (hx : Feas E m x) (h0 : ∀ v, x v ≤ 0) : ∀ r v, x v ≤ (roundsTo E m r).s.p v := by
  intro r
  induction r with
  | zero => exact h0
  | succ r ih =>
    intro v
    rw [roundsTo]
    split
    · exact ih v
    · split
      · exact ih v
      · exact scan_ge hx ih m (Nat.le_refl _) v
theorem relax_ge {n : Nat} {E : Nat → Ed} {m : Nat} {x : Nat → Int} (hx : Feas E m x) (h0 : ∀ v, x v ≤ 0) (v : Nat) : x v ≤ (relaxR n E m).s.p v := rounds_ge hx h0 _ v
theorem rounds_le (E : Nat → Ed) (m : Nat) : ∀ r v, (roundsTo E m r).s.p v ≤ 0 := by
  have hs : ∀ (s : BS), (∀ v, s.p v ≤ 0) → ∀ k v, (scanTo E s k).s.p v ≤ 0 := by
    intro s h k
    induction k with
    | zero => exact h
    | succ k ih =>
      intro v
      rw [scanTo]
      split
      · exact ih v
      · unfold edgeStep
        have h1 := ih (E k).dst.toNat
        split
        · have key : ∀ v, upd (scanTo E s k).s.p (E k).dst.toNat ((scanTo E s k).s.p (E k).src.toNat + (E k).wt) v ≤ 0 := fun v => by
            by_cases e : v = (E k).dst.toNat
            · rw [e, upd_same]; omega
            · rw [upd_other _ _ e]; exact ih v
          split <;> exact key v
        · exact ih v
  intro r
  induction r with
  | zero => exact fun v => Int.le_refl _
  | succ r ih =>
    intro v
    rw [roundsTo]
    split
    · exact ih v
    · split
      · exact ih v
      · exact hs _ ih m v
theorem relax_le (n : Nat) (E : Nat → Ed) (m : Nat) (v : Nat) : (relaxR n E m).s.p v ≤ 0 := rounds_le E m _ v
end Go.Proofs.Ytioceechdombjaa
