/- Plain law: edges, and the rounds in which potentials fall. No program in sight. -/

namespace Go.Proofs.Ytioceechdombjaa

structure Ed where
  src : Int
  dst : Int
  wt : Int

instance : Inhabited Ed := ⟨⟨0, 0, 0⟩⟩

/-- Potentials, and by which edge each node was come to. -/
structure BS where
  p : Nat → Int
  b : Nat → Int

def upd (f : Nat → Int) (i : Nat) (x : Int) : Nat → Int := fun j => if j = i then x else f j

/-- A state, the node that fell last (-1: none), whether it is over. -/
structure SR where
  s : BS
  fell : Int
  out : Bool

/-- One edge, the i-th. -/
def edgeStep (e : Ed) (i : Nat) (r : SR) : SR :=
  if r.s.p e.src.toNat + e.wt < r.s.p e.dst.toNat then
    if r.s.p e.src.toNat + e.wt < -4611686018427387904 then ⟨⟨upd r.s.p e.dst.toNat (r.s.p e.src.toNat + e.wt), upd r.s.b e.dst.toNat i⟩, e.dst, true⟩
    else ⟨⟨upd r.s.p e.dst.toNat (r.s.p e.src.toNat + e.wt), upd r.s.b e.dst.toNat i⟩, e.dst, false⟩
  else r

/-- A round, up to its k-th edge. -/
def scanTo (E : Nat → Ed) (s : BS) : Nat → SR
  | 0 => ⟨s, -1, false⟩
  | k + 1 => if (scanTo E s k).out then scanTo E s k else edgeStep (E k) k (scanTo E s k)

/-- Rounds. -/
def roundsTo (E : Nat → Ed) (m : Nat) : Nat → SR
  | 0 => ⟨⟨fun _ => 0, fun _ => -1⟩, 0, false⟩
  | r + 1 => if (roundsTo E m r).out then roundsTo E m r else if (roundsTo E m r).fell < 0 then roundsTo E m r else scanTo E (roundsTo E m r).s m

/-- What relax comes to. -/
def relaxR (n : Nat) (E : Nat → Ed) (m : Nat) : SR := roundsTo E m (n + 1)

/-- The edges are of nodes below n, their weights within Most. -/
def EdOk (n : Nat) (E : Nat → Ed) (m : Nat) : Prop :=
  ∀ i, i < m → 0 ≤ (E i).src ∧ (E i).src < n ∧ 0 ≤ (E i).dst ∧ (E i).dst < n ∧ -4611686018427387904 ≤ (E i).wt ∧ (E i).wt ≤ 4611686018427387904

/-- Potentials are from -Most to 0. -/
def Pin (r : SR) : Prop := ∀ j, -4611686018427387904 ≤ r.s.p j ∧ r.s.p j ≤ 0

theorem edge_ge {e : Ed} {i : Nat} {r : SR} (h : r.s.p e.dst.toNat ≤ r.s.p e.src.toNat + e.wt) : edgeStep e i r = r := by
  unfold edgeStep; rw [if_neg (by omega)]
theorem edge_out {e : Ed} {i : Nat} {r : SR} (h : r.s.p e.src.toNat + e.wt < r.s.p e.dst.toNat) (h2 : r.s.p e.src.toNat + e.wt < -4611686018427387904) :
    edgeStep e i r = ⟨⟨upd r.s.p e.dst.toNat (r.s.p e.src.toNat + e.wt), upd r.s.b e.dst.toNat i⟩, e.dst, true⟩ := by
  unfold edgeStep; rw [if_pos h, if_pos h2]
theorem edge_in {e : Ed} {i : Nat} {r : SR} (h : r.s.p e.src.toNat + e.wt < r.s.p e.dst.toNat) (h2 : -4611686018427387904 ≤ r.s.p e.src.toNat + e.wt) :
    edgeStep e i r = ⟨⟨upd r.s.p e.dst.toNat (r.s.p e.src.toNat + e.wt), upd r.s.b e.dst.toNat i⟩, e.dst, false⟩ := by
  unfold edgeStep; rw [if_pos h, if_neg (by omega)]
theorem scan_succ {E : Nat → Ed} {s : BS} {k : Nat} (h : (scanTo E s k).out = false) : scanTo E s (k + 1) = edgeStep (E k) k (scanTo E s k) := by
  rw [scanTo, if_neg (by simp [h])]
theorem scan_out {E : Nat → Ed} {s : BS} {k : Nat} (h : (scanTo E s k).out = true) : ∀ m, k ≤ m → scanTo E s m = scanTo E s k := by
  intro m hm
  induction m with
  | zero => obtain rfl : k = 0 := by omega
            rfl
  | succ m ih =>
    by_cases e : k = m + 1
    · subst e; rfl
    · rw [scanTo, ih (by omega), if_pos h]
theorem rounds_next {E : Nat → Ed} {m r : Nat} (h : (roundsTo E m r).out = false) (h2 : 0 ≤ (roundsTo E m r).fell) : roundsTo E m (r + 1) = scanTo E (roundsTo E m r).s m := by
  rw [roundsTo, if_neg (by simp [h]), if_neg (by omega)]
theorem rounds_done {E : Nat → Ed} {m r : Nat} (h : (roundsTo E m r).out = true ∨ (roundsTo E m r).fell < 0) : ∀ k, r ≤ k → roundsTo E m k = roundsTo E m r := by
  intro k hk
  induction k with
  | zero => obtain rfl : r = 0 := by omega
            rfl
  | succ k ih =>
    by_cases e : r = k + 1
    · subst e; rfl
    · rw [roundsTo, ih (by omega)]
      rcases h with h | h
      · rw [if_pos h]
      · by_cases ho : (roundsTo E m r).out = true
        · rw [if_pos ho]
        · rw [if_neg ho, if_pos h]
theorem final_out {n : Nat} {E : Nat → Ed} {m r k : Nat} {q : BS} {S : SR} (hq : roundsTo E m (r + 1) = scanTo E q m) (hk : k < m) (hst : scanTo E q (k + 1) = S) (ho : S.out = true) (hr : r < n + 1) : relaxR n E m = S := by
  have h1 : roundsTo E m (r + 1) = S := by rw [hq, scan_out (k := k + 1) (by rw [hst]; exact ho) m (by omega), hst]
  unfold relaxR
  rw [rounds_done (r := r + 1) (.inl (by rw [h1]; exact ho)) (n + 1) (by omega), h1]
theorem final_fell {n : Nat} {E : Nat → Ed} {m r : Nat} {S : SR} (hq : roundsTo E m (r + 1) = S) (ho : S.fell < 0) (hr : r < n + 1) : relaxR n E m = S := by
  unfold relaxR
  rw [rounds_done (r := r + 1) (.inr (by rw [hq]; exact ho)) (n + 1) (by omega), hq]
theorem Pin.upd {r : SR} (h : Pin r) {y : Nat} {d : Int} {b : Nat → Int} {f : Int} {o : Bool} (h0 : -4611686018427387904 ≤ d) (h1 : d ≤ 0) : Pin ⟨⟨upd r.s.p y d, b⟩, f, o⟩ := by
  intro j
  show _ ≤ Proofs.Ytioceechdombjaa.upd _ _ _ j ∧ Proofs.Ytioceechdombjaa.upd _ _ _ j ≤ 0
  unfold Proofs.Ytioceechdombjaa.upd
  split
  · omega
  · exact h j
end Go.Proofs.Ytioceechdombjaa

namespace Go.Proofs.Ytioceechdombjaa

/-- Numbers that hold. -/
def Feas (E : Nat → Ed) (m : Nat) (x : Nat → Int) : Prop := ∀ i, i < m → x (E i).dst.toNat ≤ x (E i).src.toNat + (E i).wt

def prd (E : Nat → Ed) (b : Nat → Int) (v : Nat) : Nat := (E (b v).toNat).src.toNat
def itr (E : Nat → Ed) (b : Nat → Int) : Nat → Nat → Nat
  | 0, v => v
  | j + 1, v => prd E b (itr E b j v)
def wby (E : Nat → Ed) (b : Nat → Int) (v : Nat) : Int := (E (b v).toNat).wt

theorem itr_add (E : Nat → Ed) (b : Nat → Int) (i j v : Nat) : itr E b (i + j) v = itr E b i (itr E b j v) := by
  induction i with
  | zero => rw [Nat.zero_add]; rfl
  | succ i ih => rw [Nat.add_right_comm]; show prd E b (itr E b (i + j) v) = prd E b (itr E b i (itr E b j v)); rw [ih]

/-- What holds in round t (from 1 on), the edges below k being done; L: the round in which each node fell last. -/
structure Inv (E : Nat → Ed) (m t k : Nat) (s : BS) (L : Nat → Nat) : Prop where
  root : ∀ v, s.b v = -1 → s.p v = 0
  rng : ∀ v, s.b v = -1 ∨ (0 ≤ s.b v ∧ s.b v < m ∧ (E (s.b v).toNat).dst.toNat = v)
  drop : ∀ v, 0 ≤ s.b v → s.p (prd E s.b v) + wby E s.b v ≤ s.p v
  cyc : ∀ v k, 1 ≤ k → (∀ j, j < k → 0 ≤ s.b (itr E s.b j v)) → itr E s.b k v = v → ∃ j, j < k ∧ s.p (itr E s.b (j + 1) v) + wby E s.b (itr E s.b j v) < s.p (itr E s.b j v)
  lv : ∀ v, 1 ≤ L v → 0 ≤ s.b v
  step : ∀ v, 0 ≤ s.b v → L v ≤ L (prd E s.b v) + 1
  le : ∀ v, L v ≤ t
  done : ∀ i, i < k → s.p (E i).dst.toNat ≤ s.p (E i).src.toNat + (E i).wt ∨ L (E i).src.toNat = t
  todo : ∀ i, k ≤ i → i < m → t ≤ 1 ∨ s.p (E i).dst.toNat ≤ s.p (E i).src.toNat + (E i).wt ∨ t - 1 ≤ L (E i).src.toNat

theorem upd_same (f : Nat → Int) (i : Nat) (x : Int) : upd f i x i = x := by simp [upd]
theorem upd_other (f : Nat → Int) {i j : Nat} (x : Int) (h : j ≠ i) : upd f i x j = f j := by simp [upd, h]

theorem itr_upd {E : Nat → Ed} {b : Nat → Int} {y : Nat} {z : Int} {v : Nat} : ∀ k, (∀ j, j < k → itr E (upd b y z) j v ≠ y) → itr E (upd b y z) k v = itr E b k v := by
  intro k
  induction k with
  | zero => intro _; rfl
  | succ k ih =>
    intro h
    have h1 := ih fun j hj => h j (by omega)
    have h2 := h k (by omega)
    show prd E (upd b y z) (itr E (upd b y z) k v) = prd E b (itr E b k v)
    rw [h1] at h2 ⊢
    unfold prd
    rw [upd_other _ _ h2]

theorem Inv.skip {E : Nat → Ed} {m t k : Nat} {s : BS} {L : Nat → Nat} (h : Inv E m t k s L) (hd : s.p (E k).dst.toNat ≤ s.p (E k).src.toNat + (E k).wt) : Inv E m t (k + 1) s L :=
  { h with
    done := fun i hi => by
      by_cases e : i = k
      · subst e; exact .inl hd
      · exact h.done i (by omega)
    todo := fun i hi => h.todo i (by omega) }

/-- An edge that makes its node fall. -/
theorem Inv.fall {E : Nat → Ed} {m t k : Nat} {s : BS} {L : Nat → Nat} (h : Inv E m t k s L) (hk : k < m) (ht : 1 ≤ t) (hd : s.p (E k).src.toNat + (E k).wt < s.p (E k).dst.toNat) :
    Inv E m t (k + 1) ⟨upd s.p (E k).dst.toNat (s.p (E k).src.toNat + (E k).wt), upd s.b (E k).dst.toNat k⟩ (fun v => if v = (E k).dst.toNat then t else L v) := by
  have hsrc : t - 1 ≤ L (E k).src.toNat := by
    rcases h.todo k (Nat.le_refl _) hk with h1 | h1 | h1
    · omega
    · omega
    · exact h1
  generalize hy : (E k).dst.toNat = y at *
  generalize hx : (E k).src.toNat = x at *
  generalize hz : (E k).wt = z at *
  have hpy : ∀ v, upd s.p y (s.p x + z) v ≤ s.p v := fun v => by
    by_cases e : v = y
    · subst e; rw [upd_same]; omega
    · rw [upd_other _ _ e]; omega
  have hby : ∀ v, v ≠ y → prd E (upd s.b y k) v = prd E s.b v ∧ wby E (upd s.b y k) v = wby E s.b v := fun v e => by
    unfold prd wby; rw [upd_other _ _ e]; exact ⟨rfl, rfl⟩
  have hpy' : prd E (upd s.b y k) y = x ∧ wby E (upd s.b y k) y = z := by
    unfold prd wby; rw [upd_same]; simp [hx, hz]
  refine ⟨?_, ?_, ?_, ?_, ?_, ?_, ?_, ?_, ?_⟩
  · intro v hv
    dsimp only at hv ⊢
    by_cases e : v = y
    · subst e; rw [upd_same] at hv; omega
    · rw [upd_other _ _ e] at hv ⊢; exact h.root v hv
  · intro v
    dsimp only
    by_cases e : v = y
    · subst e; rw [upd_same]; right; exact ⟨by omega, by omega, by simpa using hy⟩
    · rw [upd_other _ _ e]; exact h.rng v
  · intro v hv
    dsimp only at hv ⊢
    by_cases e : v = y
    · subst e
      rw [hpy'.1, hpy'.2, upd_same]
      have := hpy x
      omega
    · rw [(hby v e).1, (hby v e).2, upd_other _ _ e]
      rw [upd_other _ _ e] at hv
      have h1 := h.drop v hv
      have h2 := hpy (prd E s.b v)
      omega
  · intro v c hc hb hit
    dsimp only at hb hit ⊢
    by_cases hon : ∃ j, j < c ∧ itr E (upd s.b y k) j v = y
    · obtain ⟨j, hj, hjy⟩ := hon
      -- the node behind y
      have hprev : ∃ i, i < c ∧ itr E (upd s.b y k) (i + 1) v = y := by
        cases j with
        | zero => exact ⟨c - 1, by omega, by rw [show c - 1 + 1 = c by omega, hit]; exact hjy⟩
        | succ j => exact ⟨j, by omega, hjy⟩
      obtain ⟨i, hi, hiy⟩ := hprev
      refine ⟨i, hi, ?_⟩
      rw [hiy, upd_same]
      generalize hu : itr E (upd s.b y k) i v = u at *
      have hpu : prd E (upd s.b y k) u = y := by rw [← hu]; exact hiy
      by_cases e : u = y
      · subst e
        rw [hpy'.2, upd_same]
        rw [hpy'.1] at hpu
        subst hpu
        omega
      · rw [(hby u e).2, upd_other _ _ e]
        rw [(hby u e).1] at hpu
        have hbu := hb i hi
        rw [hu, upd_other _ _ e] at hbu
        have h1 := h.drop u hbu
        rw [hpu] at h1
        omega
    · have hno : ∀ j, j < c → itr E (upd s.b y k) j v ≠ y := fun j hj e => hon ⟨j, hj, e⟩
      have hsame : ∀ j, j ≤ c → itr E (upd s.b y k) j v = itr E s.b j v := fun j hj => itr_upd j fun i hi => hno i (by omega)
      obtain ⟨j, hj, hlt⟩ := h.cyc v c hc (fun j hj => by
        have h1 := hb j hj
        rw [upd_other _ _ (hno j hj), hsame j (by omega)] at h1
        exact h1) (by rw [← hsame c (Nat.le_refl _)]; exact hit)
      refine ⟨j, hj, ?_⟩
      have hn := hno j hj
      rw [(hby _ hn).2, upd_other _ _ hn, hsame j (by omega), hsame (j + 1) (by omega)]
      have := hpy (itr E s.b (j + 1) v)
      omega
  · intro v hv
    dsimp only at hv ⊢
    by_cases e : v = y
    · subst e; rw [upd_same]; omega
    · rw [if_neg e] at hv; rw [upd_other _ _ e]; exact h.lv v hv
  · intro v hv
    dsimp only at hv ⊢
    by_cases e : v = y
    · subst e
      rw [hpy'.1, if_pos rfl]
      split <;> omega
    · rw [(hby v e).1, if_neg e]
      rw [upd_other _ _ e] at hv
      have h1 := h.step v hv
      have h2 := h.le v
      split <;> omega
  · intro v
    have := h.le v
    show (if v = y then t else L v) ≤ t
    split <;> omega
  · intro i hi
    dsimp only
    by_cases e : i = k
    · subst e
      by_cases exy : x = y
      · right; rw [hx, if_pos exy]
      · left; rw [hy, hx, hz, upd_same, upd_other _ _ exy]; omega
    · by_cases es : (E i).src.toNat = y
      · right; rw [if_pos es]
      · rw [if_neg es]
        rcases h.done i (by omega) with h1 | h1
        · left; rw [upd_other _ _ es]; have := hpy (E i).dst.toNat; omega
        · right; exact h1
  · intro i hi him
    dsimp only
    by_cases es : (E i).src.toNat = y
    · right; right; rw [if_pos es]; omega
    · rw [if_neg es]
      rcases h.todo i (by omega) him with h1 | h1 | h1
      · exact .inl h1
      · right; left; rw [upd_other _ _ es]; have := hpy (E i).dst.toNat; omega
      · right; right; exact h1
theorem Inv.next {E : Nat → Ed} {m t : Nat} {s : BS} {L : Nat → Nat} (h : Inv E m t m s L) : Inv E m (t + 1) 0 s L :=
  { h with
    le := fun v => by have := h.le v; omega
    done := fun i hi => by omega
    todo := fun i _ hi => by
      rcases h.done i hi with h1 | h1
      · exact .inr (.inl h1)
      · right; right; omega }
theorem Inv.start (E : Nat → Ed) (m : Nat) : Inv E m 1 0 ⟨fun _ => 0, fun _ => -1⟩ (fun _ => 0) :=
  { root := fun _ _ => rfl
    rng := fun _ => .inl rfl
    drop := fun v hv => by dsimp only at hv; omega
    cyc := fun v k hk hb _ => by have := hb 0 (by omega); dsimp only at this; omega
    lv := fun v hv => by omega
    step := fun v hv => by omega
    le := fun v => by omega
    done := fun i hi => by omega
    todo := fun i _ _ => .inl (Nat.le_refl _) }

theorem scan_fell {E : Nat → Ed} {s : BS} {k : Nat} (hE : ∀ i, i < k → 0 ≤ (E i).dst) : (scanTo E s k).fell < 0 → scanTo E s k = ⟨s, -1, false⟩ ∧ ∀ i, i < k → s.p (E i).dst.toNat ≤ s.p (E i).src.toNat + (E i).wt := by
  induction k with
  | zero => intro _; exact ⟨rfl, fun i hi => by omega⟩
  | succ k ih =>
    intro h
    have hEk := hE k (by omega)
    by_cases ho : (scanTo E s k).out = true
    · have e : scanTo E s (k + 1) = scanTo E s k := by rw [scanTo, if_pos ho]
      rw [e] at h
      have h1 := (ih (fun i hi => hE i (by omega)) h).1
      rw [h1] at ho; cases ho
    · have ho' : (scanTo E s k).out = false := by simpa using ho
      rw [scan_succ ho'] at h ⊢
      by_cases hd : (scanTo E s k).s.p (E k).src.toNat + (E k).wt < (scanTo E s k).s.p (E k).dst.toNat
      · by_cases h2 : (scanTo E s k).s.p (E k).src.toNat + (E k).wt < -4611686018427387904
        · rw [edge_out hd h2] at h; dsimp only at h; omega
        · rw [edge_in hd (by omega)] at h; dsimp only at h; omega
      · rw [edge_ge (by omega)] at h ⊢
        obtain ⟨h1, h2⟩ := ih (fun i hi => hE i (by omega)) h
        refine ⟨h1, fun i hi => ?_⟩
        by_cases e : i = k
        · subst e; rw [h1] at hd; dsimp only at hd; omega
        · exact h2 i (by omega)

theorem scan_inv {E : Nat → Ed} {m t : Nat} {s : BS} {L : Nat → Nat} (hE : ∀ i, i < m → 0 ≤ (E i).dst) (ht : 1 ≤ t) (h : Inv E m t 0 s L) : ∀ k, k ≤ m →
    ((scanTo E s k).out = false ∧ ∃ L', Inv E m t k (scanTo E s k).s L' ∧ ((scanTo E s k).fell = -1 ∨ 0 ≤ (scanTo E s k).fell ∧ L' (scanTo E s k).fell.toNat = t)) ∨
    ((scanTo E s k).out = true ∧ 0 ≤ (scanTo E s k).fell ∧ (scanTo E s k).s.p (scanTo E s k).fell.toNat < -4611686018427387904 ∧ ∃ k' L', Inv E m t k' (scanTo E s k).s L') := by
  intro k
  induction k with
  | zero => intro _; exact .inl ⟨rfl, L, h, .inl rfl⟩
  | succ k ih =>
    intro hk
    rcases ih (by omega) with ⟨ho, L', hI, hf⟩ | ⟨ho, h1, h2, h3⟩
    · rw [scan_succ ho]
      have hEk := hE k (by omega)
      by_cases hd : (scanTo E s k).s.p (E k).src.toNat + (E k).wt < (scanTo E s k).s.p (E k).dst.toNat
      · have hI' := hI.fall (by omega) ht hd
        by_cases h2 : (scanTo E s k).s.p (E k).src.toNat + (E k).wt < -4611686018427387904
        · rw [edge_out hd h2]
          right
          refine ⟨rfl, hEk, ?_, _, _, hI'⟩
          show upd _ _ _ _ < _
          rw [upd_same]; exact h2
        · rw [edge_in hd (by omega)]
          left
          exact ⟨rfl, _, hI', .inr ⟨hEk, by dsimp only; rw [if_pos rfl]⟩⟩
      · rw [edge_ge (by omega)]
        exact .inl ⟨ho, L', hI.skip (by omega), hf⟩
    · have e : scanTo E s (k + 1) = scanTo E s k := by rw [scanTo, if_pos ho]
      rw [e]
      exact .inr ⟨ho, h1, h2, h3⟩

theorem rounds_inv {E : Nat → Ed} {m : Nat} (hE : ∀ i, i < m → 0 ≤ (E i).dst) : ∀ r,
    ((roundsTo E m r).out = false ∧ 0 ≤ (roundsTo E m r).fell ∧ ∃ L, Inv E m (r + 1) 0 (roundsTo E m r).s L ∧ (1 ≤ r → L (roundsTo E m r).fell.toNat = r)) ∨
    ((roundsTo E m r).out = false ∧ (roundsTo E m r).fell < 0 ∧ Feas E m (roundsTo E m r).s.p) ∨
    ((roundsTo E m r).out = true ∧ 0 ≤ (roundsTo E m r).fell ∧ (roundsTo E m r).s.p (roundsTo E m r).fell.toNat < -4611686018427387904 ∧ ∃ t k L, Inv E m t k (roundsTo E m r).s L) := by
  intro r
  induction r with
  | zero => exact .inl ⟨rfl, Int.le_refl _, _, Inv.start E m, fun h => by omega⟩
  | succ r ih =>
    rcases ih with ⟨ho, hf, L, hI, _⟩ | ⟨ho, hf, hx⟩ | ⟨ho, hf, hp, hI⟩
    · rw [rounds_next ho hf]
      rcases scan_inv hE (by omega) hI m (Nat.le_refl _) with ⟨ho', L', hI', hf'⟩ | ⟨ho', hf', hp', k', L', hI'⟩
      · rcases hf' with hf' | ⟨hf', hL⟩
        · right; left
          have h2 := scan_fell hE (s := (roundsTo E m r).s) (by rw [hf']; decide)
          exact ⟨ho', by rw [hf']; decide, by rw [h2.1]; exact h2.2⟩
        · exact .inl ⟨ho', hf', L', hI'.next, fun _ => hL⟩
      · exact .inr (.inr ⟨ho', hf', hp', _, _, _, hI'⟩)
    · rw [rounds_done (.inr hf) (r + 1) (by omega)]; exact .inr (.inl ⟨ho, hf, hx⟩)
    · rw [rounds_done (.inl ho) (r + 1) (by omega)]; exact .inr (.inr ⟨ho, hf, hp, hI⟩)

/-- Potentials hold where it ends without a fall. -/
theorem relax_feas {n : Nat} {E : Nat → Ed} {m : Nat} (hE : ∀ i, i < m → 0 ≤ (E i).dst) (h : (relaxR n E m).fell < 0) : Feas E m (relaxR n E m).s.p := by
  unfold relaxR at h ⊢
  rcases rounds_inv hE (n + 1) with ⟨_, hf, _⟩ | ⟨_, _, hx⟩ | ⟨_, hf, _⟩
  · omega
  · exact hx
  · omega
/-- Numbers that hold and are at most 0 are at most the potentials, all along. -/
theorem scan_ge {E : Nat → Ed} {m : Nat} {x : Nat → Int} (hx : Feas E m x) {s : BS} (h : ∀ v, x v ≤ s.p v) : ∀ k, k ≤ m → ∀ v, x v ≤ (scanTo E s k).s.p v := by
  intro k
  induction k with
  | zero => intro _; exact h
  | succ k ih =>
    intro hk v
    have h1 := ih (by omega)
    by_cases ho : (scanTo E s k).out = true
    · rw [scanTo, if_pos ho]; exact h1 v
    · rw [scan_succ (by simpa using ho)]
      have hk' := hx k (by omega)
      have hs := h1 (E k).src.toNat
      have key : ∀ v, x v ≤ upd (scanTo E s k).s.p (E k).dst.toNat ((scanTo E s k).s.p (E k).src.toNat + (E k).wt) v := fun v => by
        by_cases e : v = (E k).dst.toNat
        · rw [e, upd_same]; omega
        · rw [upd_other _ _ e]; exact h1 v
      unfold edgeStep
      split
      · split <;> exact key v
      · exact h1 v
theorem rounds_ge {E : Nat → Ed} {m : Nat} {x : Nat → Int} (hx : Feas E m x) (h0 : ∀ v, x v ≤ 0) : ∀ r v, x v ≤ (roundsTo E m r).s.p v := by
  intro r
  induction r with
  | zero => exact h0
  | succ r ih =>
    intro v
    rw [roundsTo]
    split
    · exact ih v
    · split
      · exact ih v
      · exact scan_ge hx ih m (Nat.le_refl _) v
theorem relax_ge {n : Nat} {E : Nat → Ed} {m : Nat} {x : Nat → Int} (hx : Feas E m x) (h0 : ∀ v, x v ≤ 0) (v : Nat) : x v ≤ (relaxR n E m).s.p v := rounds_ge hx h0 _ v
theorem rounds_le (E : Nat → Ed) (m : Nat) : ∀ r v, (roundsTo E m r).s.p v ≤ 0 := by
  have hs : ∀ (s : BS), (∀ v, s.p v ≤ 0) → ∀ k v, (scanTo E s k).s.p v ≤ 0 := by
    intro s h k
    induction k with
    | zero => exact h
    | succ k ih =>
      intro v
      rw [scanTo]
      split
      · exact ih v
      · unfold edgeStep
        have h1 := ih (E k).dst.toNat
        split
        · have key : ∀ v, upd (scanTo E s k).s.p (E k).dst.toNat ((scanTo E s k).s.p (E k).src.toNat + (E k).wt) v ≤ 0 := fun v => by
            by_cases e : v = (E k).dst.toNat
            · rw [e, upd_same]; omega
            · rw [upd_other _ _ e]; exact ih v
          split <;> exact key v
        · exact ih v
  intro r
  induction r with
  | zero => exact fun v => Int.le_refl _
  | succ r ih =>
    intro v
    rw [roundsTo]
    split
    · exact ih v
    · split
      · exact ih v
      · exact hs _ ih m v
theorem relax_le (n : Nat) (E : Nat → Ed) (m : Nat) (v : Nat) : (relaxR n E m).s.p v ≤ 0 := rounds_le E m _ v
end Go.Proofs.Ytioceechdombjaa

namespace Go.Proofs.Ytioceechdombjaa

def absI (x : Int) : Int := if 0 ≤ x then x else -x
def sumN (f : Nat → Int) : Nat → Int
  | 0 => 0
  | k + 1 => sumN f k + f k
theorem sumN_upd (f : Nat → Int) (e : Nat) : ∀ m, e < m → sumN (upd f e 0) m = sumN f m - f e := by
  have h0 : ∀ m, m ≤ e → sumN (upd f e 0) m = sumN f m := by
    intro m
    induction m with
    | zero => intro _; rfl
    | succ m ih => intro h; show sumN (upd f e 0) m + upd f e 0 m = sumN f m + f m; rw [ih (by omega), upd_other _ _ (by omega)]
  intro m
  induction m with
  | zero => intro h; omega
  | succ m ih =>
    intro h
    show sumN (upd f e 0) m + upd f e 0 m = sumN f m + f m - f e
    by_cases e1 : m = e
    · subst e1; rw [h0 m (Nat.le_refl _), upd_same]; omega
    · rw [ih (by omega), upd_other _ _ e1]; omega
theorem sumN_nonneg {f : Nat → Int} (h : ∀ i, 0 ≤ f i) (m : Nat) : 0 ≤ sumN f m := by
  induction m with
  | zero => exact Int.le_refl _
  | succ m ih => have := h m; show 0 ≤ sumN f m + f m; omega
theorem sumN_congr {f g : Nat → Int} {m : Nat} (h : ∀ i, i < m → f i = g i) : sumN f m = sumN g m := by
  induction m with
  | zero => rfl
  | succ m ih => show sumN f m + f m = sumN g m + g m; rw [ih fun i hi => h i (by omega), h m (by omega)]
/-- Places that are all unlike come together to no more than all do. -/
theorem sum_inj : ∀ (j : Nat) (e : Nat → Nat) (f : Nat → Int) (m : Nat), (∀ i, 0 ≤ f i) → (∀ i, i < j → e i < m) → (∀ i i', i < i' → i' < j → e i ≠ e i') → sumN (fun i => f (e i)) j ≤ sumN f m := by
  intro j
  induction j with
  | zero => intro e f m h _ _; exact sumN_nonneg h m
  | succ j ih =>
    intro e f m h hm hi
    have h1 := ih e (upd f (e j) 0) m (fun i => by
      by_cases e1 : i = e j
      · subst e1; rw [upd_same]; exact Int.le_refl _
      · rw [upd_other _ _ e1]; exact h i) (fun i hi => hm i (by omega)) (fun i i' h1 h2 => hi i i' h1 (by omega))
    rw [sumN_upd f (e j) m (hm j (by omega))] at h1
    have h2 : sumN (fun i => upd f (e j) 0 (e i)) j = sumN (fun i => f (e i)) j := sumN_congr fun i hij => upd_other _ _ (hi i j hij (by omega))
    rw [h2] at h1
    show sumN (fun i => f (e i)) j + f (e j) ≤ sumN f m
    omega

theorem pigeon : ∀ (n : Nat) (g : Nat → Nat), (∀ i, i ≤ n → g i < n) → ∃ i j, i < j ∧ j ≤ n ∧ g i = g j := by
  intro n
  induction n with
  | zero => intro g h; have := h 0 (Nat.le_refl _); omega
  | succ n ih =>
    intro g h
    by_cases hex : ∃ i, i ≤ n ∧ g i = g (n + 1)
    · obtain ⟨i, hi, e⟩ := hex
      exact ⟨i, n + 1, by omega, Nat.le_refl _, e⟩
    · have hno : ∀ i, i ≤ n → g i ≠ g (n + 1) := fun i hi e => hex ⟨i, hi, e⟩
      obtain ⟨i, j, hij, hj, e⟩ := ih (fun i => if g (n + 1) < g i then g i - 1 else g i) (fun i hi => by
        have h1 := h i (by omega)
        have h2 := h (n + 1) (Nat.le_refl _)
        have h3 := hno i hi
        show (if g (n + 1) < g i then g i - 1 else g i) < n
        split <;> omega)
      refine ⟨i, j, hij, by omega, ?_⟩
      have h1 := hno i (by omega)
      have h2 := hno j (by omega)
      replace e : (if g (n + 1) < g i then g i - 1 else g i) = (if g (n + 1) < g j then g j - 1 else g j) := e
      split at e <;> split at e <;> omega

variable {E : Nat → Ed} {m : Nat}

theorem drop_sum {t k : Nat} {s : BS} {L : Nat → Nat} (h : Inv E m t k s L) (v : Nat) : ∀ j, (∀ i, i < j → 0 ≤ s.b (itr E s.b i v)) → s.p (itr E s.b j v) + sumN (fun i => wby E s.b (itr E s.b i v)) j ≤ s.p v := by
  intro j
  induction j with
  | zero => intro _; show s.p v + 0 ≤ s.p v; omega
  | succ j ih =>
    intro hb
    have h1 := ih fun i hi => hb i (by omega)
    have h2 := h.drop _ (hb j (by omega))
    show s.p (prd E s.b (itr E s.b j v)) + (sumN (fun i => wby E s.b (itr E s.b i v)) j + wby E s.b (itr E s.b j v)) ≤ s.p v
    omega
/-- A cycle comes to less than 0. -/
theorem cyc_neg {t k : Nat} {s : BS} {L : Nat → Nat} (h : Inv E m t k s L) {v c : Nat} (hc : 1 ≤ c) (hb : ∀ j, j < c → 0 ≤ s.b (itr E s.b j v)) (hv : itr E s.b c v = v) : sumN (fun i => wby E s.b (itr E s.b i v)) c < 0 := by
  obtain ⟨j, hj, hlt⟩ := h.cyc v c hc hb hv
  have h1 := drop_sum h v j fun i hi => hb i (by omega)
  have key : ∀ d, j + 1 + d ≤ c → s.p (itr E s.b (j + 1 + d) v) + sumN (fun i => wby E s.b (itr E s.b i v)) (j + 1 + d) < s.p v := by
    intro d
    induction d with
    | zero =>
      intro _
      show s.p (itr E s.b (j + 1) v) + (sumN (fun i => wby E s.b (itr E s.b i v)) j + wby E s.b (itr E s.b j v)) < s.p v
      omega
    | succ d ih =>
      intro hd
      have h2 := ih (by omega)
      have h3 := h.drop _ (hb (j + 1 + d) (by omega))
      show s.p (prd E s.b (itr E s.b (j + 1 + d) v)) + (sumN (fun i => wby E s.b (itr E s.b i v)) (j + 1 + d) + wby E s.b (itr E s.b (j + 1 + d) v)) < s.p v
      omega
  have := key (c - (j + 1)) (by omega)
  rw [show j + 1 + (c - (j + 1)) = c by omega, hv] at this
  omega
/-- Where numbers hold no cycle comes to less than 0. -/
theorem cyc_feas {t k : Nat} {s : BS} {L : Nat → Nat} (h : Inv E m t k s L) {x : Nat → Int} (hx : Feas E m x) {v : Nat} : ∀ c, (∀ j, j < c → 0 ≤ s.b (itr E s.b j v)) → x v ≤ x (itr E s.b c v) + sumN (fun i => wby E s.b (itr E s.b i v)) c := by
  intro c
  induction c with
  | zero => intro _; show x v ≤ x v + 0; omega
  | succ c ih =>
    intro hb
    have h1 := ih fun i hi => hb i (by omega)
    have hbc := hb c (by omega)
    rcases h.rng (itr E s.b c v) with h2 | ⟨h2, h3, h4⟩
    · omega
    · have h5 := hx (s.b (itr E s.b c v)).toNat (by omega)
      rw [h4] at h5
      show x v ≤ x (E (s.b (itr E s.b c v)).toNat).src.toNat + (sumN (fun i => wby E s.b (itr E s.b i v)) c + (E (s.b (itr E s.b c v)).toNat).wt)
      omega

/-- Edges by unlike nodes are unlike. -/
theorem by_inj {t k : Nat} {s : BS} {L : Nat → Nat} (h : Inv E m t k s L) {u v : Nat} (hu : 0 ≤ s.b u) (hv : 0 ≤ s.b v) (e : (s.b u).toNat = (s.b v).toNat) : u = v := by
  rcases h.rng u with h1 | ⟨_, _, h1⟩
  · omega
  · rcases h.rng v with h2 | ⟨_, _, h2⟩
    · omega
    · rw [← h1, ← h2, e]

theorem no_rep {b : Nat → Int} {f j : Nat} (hb : ∀ i, i < j → 0 ≤ b (itr E b i f)) (hj : b (itr E b j f) < 0) : ∀ i i', i < i' → i' ≤ j → itr E b i f ≠ itr E b i' f := by
  intro i i' h1 h2 e
  have h3 : itr E b (j - i' + i) f = itr E b j f := by
    rw [itr_add, e, ← itr_add, show j - i' + i' = j by omega]
  have h4 := hb (j - i' + i) (by omega)
  rw [h3] at h4
  omega

/-- Where the rounds end with a fall, the edges lead on from the node that fell, n times at least. -/
theorem bad_chain {n : Nat} (hE : ∀ i, i < m → 0 ≤ (E i).dst) (hS : sumN (fun i => absI (E i).wt) m ≤ 4611686018427387904) (h : 0 ≤ (relaxR n E m).fell) :
    (∃ t k L, Inv E m t k (relaxR n E m).s L) ∧ ∀ j, j ≤ n → 0 ≤ (relaxR n E m).s.b (itr E (relaxR n E m).s.b j (relaxR n E m).fell.toNat) := by
  unfold relaxR at h ⊢
  rcases rounds_inv hE (n + 1) with ⟨ho, hf, L, hI, hL⟩ | ⟨_, hf, _⟩ | ⟨ho, hf, hp, t, k, L, hI⟩
  · refine ⟨⟨_, _, L, hI⟩, ?_⟩
    have hL' := hL (by omega)
    have key : ∀ j, j ≤ n + 1 → n + 1 - j ≤ L (itr E (roundsTo E m (n + 1)).s.b j (roundsTo E m (n + 1)).fell.toNat) := by
      intro j
      induction j with
      | zero => intro _; show n + 1 - 0 ≤ L _; rw [show itr E (roundsTo E m (n + 1)).s.b 0 (roundsTo E m (n + 1)).fell.toNat = (roundsTo E m (n + 1)).fell.toNat from rfl, hL']; omega
      | succ j ih =>
        intro hj
        have h1 := ih (by omega)
        have h2 := hI.step _ (hI.lv _ (show 1 ≤ L (itr E (roundsTo E m (n + 1)).s.b j (roundsTo E m (n + 1)).fell.toNat) by omega))
        show n + 1 - (j + 1) ≤ L (prd E (roundsTo E m (n + 1)).s.b (itr E (roundsTo E m (n + 1)).s.b j (roundsTo E m (n + 1)).fell.toNat))
        omega
    intro j hj
    have := key j (by omega)
    exact hI.lv _ (by omega)
  · omega
  · refine ⟨⟨t, k, L, hI⟩, ?_⟩
    generalize (roundsTo E m (n + 1)).fell.toNat = f at *
    generalize (roundsTo E m (n + 1)).s = s at *
    have key : ∀ j, ∀ i, i ≤ j → 0 ≤ s.b (itr E s.b i f) := by
      intro j
      have step : ∀ j, (∀ i, i < j → 0 ≤ s.b (itr E s.b i f)) → 0 ≤ s.b (itr E s.b j f) := by
        intro j hb
        rcases hI.rng (itr E s.b j f) with h1 | ⟨h1, _⟩
        · exfalso
          have h2 := drop_sum hI f j hb
          rw [hI.root _ h1] at h2
          have h3 : sumN (fun i => absI (wby E s.b (itr E s.b i f))) j ≤ sumN (fun i => absI (E i).wt) m :=
            sum_inj j (fun i => (s.b (itr E s.b i f)).toNat) (fun i => absI (E i).wt) m (fun i => by unfold absI; split <;> omega)
              (fun i hi => by
                have h4 := hb i hi
                rcases hI.rng (itr E s.b i f) with h5 | ⟨_, h5, _⟩ <;> omega)
              (fun i i' h4 h5 e => no_rep hb (by omega) i i' h4 (by omega) (by_inj hI (hb i (by omega)) (hb i' h5) e))
          have h4 : ∀ c, -(sumN (fun i => absI (wby E s.b (itr E s.b i f))) c) ≤ sumN (fun i => wby E s.b (itr E s.b i f)) c := by
            intro c
            induction c with
            | zero => exact Int.le_refl _
            | succ c ih =>
              show -(sumN (fun i => absI (wby E s.b (itr E s.b i f))) c + absI (wby E s.b (itr E s.b c f))) ≤ sumN (fun i => wby E s.b (itr E s.b i f)) c + wby E s.b (itr E s.b c f)
              have : -(absI (wby E s.b (itr E s.b c f))) ≤ wby E s.b (itr E s.b c f) := by unfold absI; split <;> omega
              omega
          have := h4 j
          omega
        · exact h1
      induction j with
      | zero => intro i hi; obtain rfl : i = 0 := by omega
                exact step 0 fun i hi => by omega
      | succ j ih =>
        intro i hi
        by_cases e : i = j + 1
        · subst e; exact step (j + 1) fun i hi => ih i (by omega)
        · exact ih i (by omega)
    intro j _
    exact key j j (Nat.le_refl _)

theorem fell_lt {n : Nat} (hE : EdOk n E m) (hn : 0 < n) : (relaxR n E m).fell.toNat < n := by
  have hs : ∀ s k, k ≤ m → (scanTo E s k).fell.toNat < n := by
    intro s k
    induction k with
    | zero => intro _; exact hn
    | succ k ih =>
      intro hk
      rw [scanTo]
      split
      · exact ih (by omega)
      · obtain ⟨_, _, h1, h2, _⟩ := hE k (by omega)
        unfold edgeStep
        split
        · split <;> (dsimp only; omega)
        · exact ih (by omega)
  have hr : ∀ r, (roundsTo E m r).fell.toNat < n := by
    intro r
    induction r with
    | zero => exact hn
    | succ r ih =>
      rw [roundsTo]
      split
      · exact ih
      · split
        · exact ih
        · exact hs _ m (Nat.le_refl _)
  exact hr _

/-- A cycle from the node to which n steps lead. -/
theorem bad_cycle {n : Nat} (hE : EdOk n E m) (hS : sumN (fun i => absI (E i).wt) m ≤ 4611686018427387904) (h : 0 ≤ (relaxR n E m).fell) (hn : 0 < n) :
    ∃ c, 1 ≤ c ∧ c ≤ n ∧ itr E (relaxR n E m).s.b c (itr E (relaxR n E m).s.b n (relaxR n E m).fell.toNat) = itr E (relaxR n E m).s.b n (relaxR n E m).fell.toNat ∧
      ∀ j, 0 ≤ (relaxR n E m).s.b (itr E (relaxR n E m).s.b j (itr E (relaxR n E m).s.b n (relaxR n E m).fell.toNat)) := by
  obtain ⟨⟨t, k, L, hI⟩, hch⟩ := bad_chain (n := n) (fun i hi => (hE i hi).2.2.1) hS h
  have hf := fell_lt hE hn
  generalize (relaxR n E m).fell.toNat = f at *
  generalize (relaxR n E m).s = s at *
  have hlt : ∀ i, i ≤ n → itr E s.b i f < n := by
    intro i hi
    cases i with
    | zero => exact hf
    | succ i =>
      have h1 := hch i (by omega)
      rcases hI.rng (itr E s.b i f) with h2 | ⟨_, h2, _⟩
      · omega
      · obtain ⟨h3, h4, _⟩ := hE (s.b (itr E s.b i f)).toNat (by omega)
        show (E (s.b (itr E s.b i f)).toNat).src.toNat < n
        omega
  obtain ⟨i, j, hij, hj, e⟩ := pigeon n (fun i => itr E s.b i f) hlt
  have hper : itr E s.b (j - i) (itr E s.b n f) = itr E s.b n f := by
    rw [← itr_add, show j - i + n = (n - i) + j by omega, itr_add, ← e, ← itr_add, show n - i + i = n by omega]
  refine ⟨j - i, by omega, by omega, hper, ?_⟩
  -- all that follow are among the first n + 1
  have hall : ∀ d, ∃ d', i ≤ d' ∧ d' < j ∧ itr E s.b d (itr E s.b n f) = itr E s.b d' f := by
    have hone : ∀ d, i ≤ d → ∃ d', i ≤ d' ∧ d' < j ∧ itr E s.b d f = itr E s.b d' f := by
      intro d
      induction d with
      | zero => intro h0; exact ⟨0, by omega, by omega, rfl⟩
      | succ d ih =>
        intro h0
        by_cases e1 : i = d + 1
        · exact ⟨d + 1, by omega, by omega, rfl⟩
        · obtain ⟨d', h1, h2, h3⟩ := ih (by omega)
          by_cases e2 : d' + 1 = j
          · refine ⟨i, Nat.le_refl _, hij, ?_⟩
            rw [e, ← e2]
            show prd E s.b (itr E s.b d f) = prd E s.b (itr E s.b d' f)
            rw [h3]
          · refine ⟨d' + 1, by omega, by omega, ?_⟩
            show prd E s.b (itr E s.b d f) = prd E s.b (itr E s.b d' f)
            rw [h3]
    intro d
    rw [← itr_add]
    exact hone _ (by omega)
  intro d
  obtain ⟨d', _, h2, h3⟩ := hall d
  rw [h3]
  exact hch d' (by omega)

/-- Where numbers hold the rounds end without a fall. -/
theorem relax_conv {n : Nat} (hE : EdOk n E m) (hS : sumN (fun i => absI (E i).wt) m ≤ 4611686018427387904) {x : Nat → Int} (hx : Feas E m x) : (relaxR n E m).fell < 0 := by
  by_cases hn : 0 < n
  · by_cases h : 0 ≤ (relaxR n E m).fell
    · obtain ⟨c, hc, _, hv, hb⟩ := bad_cycle hE hS h hn
      obtain ⟨⟨t, k, L, hI⟩, _⟩ := bad_chain (n := n) (fun i hi => (hE i hi).2.2.1) hS h
      have h1 := cyc_neg hI hc (fun j _ => hb j) hv
      have h2 := cyc_feas hI hx c (fun j _ => hb j)
      rw [hv] at h2
      omega
    · omega
  · have hm : m = 0 := by
      rcases Nat.eq_zero_or_pos m with h | h
      · exact h
      · have := hE 0 h; omega
    subst hm
    obtain rfl : n = 0 := by omega
    show (roundsTo E 0 1).fell < 0
    rw [rounds_next rfl (Int.le_refl _)]
    show (-1 : Int) < 0
    omega
end Go.Proofs.Ytioceechdombjaa
