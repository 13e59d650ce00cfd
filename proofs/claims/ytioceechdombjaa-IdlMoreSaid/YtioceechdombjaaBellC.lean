/- Plain law: where the rounds end with a fall there is a closed walk that comes to less than 0; so no numbers hold. -/
import Derived.Test.YtioceechdombjaaBellB
namespace Go.Proofs.Ytioceechdombjaa

def absI (x : Int) : Int := if 0 ≤ x then x else -x
def sumN (f : Nat → Int) : Nat → Int
  | 0 => 0
  | k + 1 => sumN f k + f k
theorem sumN_upd (f : Nat → Int) (e : Nat) : ∀ m, e < m → sumN (upd f e 0) m = sumN f m - f e := by
  have h0 : ∀ m, m ≤ e → sumN (upd f e 0) m = sumN f m := by
    intro m
    induction m with
    | zero => intro _; rfl
    | succ m ih => intro h; show sumN (upd f e 0) m + upd f e 0 m = sumN f m + f m; rw [ih (by omega), upd_other _ _ (by omega)]
  intro m
  induction m with
  | zero => intro h; omega
  | succ m ih =>
    intro h
    show sumN (upd f e 0) m + upd f e 0 m = sumN f m + f m - f e
    by_cases e1 : m = e
    · subst e1; rw [h0 m (Nat.le_refl _), upd_same]; omega
    · rw [ih (by omega), upd_other _ _ e1]; omega
theorem sumN_nonneg {f : Nat → Int} (h : ∀ i, 0 ≤ f i) (m : Nat) : 0 ≤ sumN f m := by
  induction m with
  | zero => exact Int.le_refl _
  | succ m ih => have := h m; show 0 ≤ sumN f m + f m; omega
theorem sumN_congr {f g : Nat → Int} {m : Nat} (h : ∀ i, i < m → f i = g i) : sumN f m = sumN g m := by
  induction m with
  | zero => rfl
  | succ m ih => show sumN f m + f m = sumN g m + g m; rw [ih fun i hi => h i (by omega), h m (by omega)]
/-- Places that are all unlike come together to no more than all do. -/
theorem sum_inj : ∀ (j : Nat) (e : Nat → Nat) (f : Nat → Int) (m : Nat), (∀ i, 0 ≤ f i) → (∀ i, i < j → e i < m) → (∀ i i', i < i' → i' < j → e i ≠ e i') → sumN (fun i => f (e i)) j ≤ sumN f m := by
  intro j
  induction j with
  | zero => intro e f m h _ _; exact sumN_nonneg h m
  | succ j ih =>
    intro e f m h hm hi
    have h1 := ih e (upd f (e j) 0) m (fun i => by
      by_cases e1 : i = e j
      · subst e1; rw [upd_same]; exact Int.le_refl _
      · rw [upd_other _ _ e1]; exact h i) (fun i hi => hm i (by omega)) (fun i i' h1 h2 => hi i i' h1 (by omega))
    rw [sumN_upd f (e j) m (hm j (by omega))] at h1
    have h2 : sumN (fun i => upd f (e j) 0 (e i)) j = sumN (fun i => f (e i)) j := sumN_congr fun i hij => upd_other _ _ (hi i j hij (by omega))
    rw [h2] at h1
    show sumN (fun i => f (e i)) j + f (e j) ≤ sumN f m
    omega

theorem pigeon : ∀ (n : Nat) (g : Nat → Nat), (∀ i, i ≤ n → g i < n) → ∃ i j, i < j ∧ j ≤ n ∧ g i = g j := by
  intro n
  induction n with
  | zero => intro g h; have := h 0 (Nat.le_refl _); omega
  | succ n ih =>
    intro g h
    by_cases hex : ∃ i, i ≤ n ∧ g i = g (n + 1)
    · obtain ⟨i, hi, e⟩ := hex
      exact ⟨i, n + 1, by omega, Nat.le_refl _, e⟩
    · have hno : ∀ i, i ≤ n → g i ≠ g (n + 1) := fun i hi e => hex ⟨i, hi, e⟩
      obtain ⟨i, j, hij, hj, e⟩ := ih (fun i => if g (n + 1) < g i then g i - 1 else g i) (fun i hi => by
        have h1 := h i (by omega)
        have h2 := h (n + 1) (Nat.le_refl _)
        have h3 := hno i hi
        show (if g (n + 1) < g i then g i - 1 else g i) < n
        split <;> omega)
      refine ⟨i, j, hij, by omega, ?_⟩
      have h1 := hno i (by omega)
      have h2 := hno j (by omega)
      replace e : (if g (n + 1) < g i then g i - 1 else g i) = (if g (n + 1) < g j then g j - 1 else g j) := e
      split at e <;> split at e <;> omega

variable {E : Nat → Ed} {m : Nat}

theorem drop_sum {t k : Nat} {s : BS} {L : Nat → Nat} (h : Inv E m t k s L) (v : Nat) : ∀ j, (∀ i, i < j → 0 ≤ s.b (itr E s.b i v)) → s.p (itr E s.b j v) + sumN (fun i => wby E s.b (itr E s.b i v)) j ≤ s.p v := by
  intro j
  induction j with
  | zero => intro _; show s.p v + 0 ≤ s.p v; omega
  | succ j ih =>
    intro hb
    have h1 := ih fun i hi => hb i (by omega)
    have h2 := h.drop _ (hb j (by omega))
    show s.p (prd E s.b (itr E s.b j v)) + (sumN (fun i => wby E s.b (itr E s.b i v)) j + wby E s.b (itr E s.b j v)) ≤ s.p v
    omega
/-- A cycle comes to less than 0. -/
theorem cyc_neg {t k : Nat} {s : BS} {L : Nat → Nat} (h : Inv E m t k s L) {v c : Nat} (hc : 1 ≤ c) (hb : ∀ j, j < c → 0 ≤ s.b (itr E s.b j v)) (hv : itr E s.b c v = v) : sumN (fun i => wby E s.b (itr E s.b i v)) c < 0 := by
  obtain ⟨j, hj, hlt⟩ := h.cyc v c hc hb hv
  have h1 := drop_sum h v j fun i hi => hb i (by omega)
  have key : ∀ d, j + 1 + d ≤ c → s.p (itr E s.b (j + 1 + d) v) + sumN (fun i => wby E s.b (itr E s.b i v)) (j + 1 + d) < s.p v := by
    intro d
    induction d with
    | zero =>
      intro _
      show s.p (itr E s.b (j + 1) v) + (sumN (fun i => wby E s.b (itr E s.b i v)) j + wby E s.b (itr E s.b j v)) < s.p v
      omega
    | succ d ih =>
      intro hd
      have h2 := ih (by omega)
      have h3 := h.drop _ (hb (j + 1 + d) (by omega))
      show s.p (prd E s.b (itr E s.b (j + 1 + d) v)) + (sumN (fun i => wby E s.b (itr E s.b i v)) (j + 1 + d) + wby E s.b (itr E s.b (j + 1 + d) v)) < s.p v
      omega
  have := key (c - (j + 1)) (by omega)
  rw [show j + 1 + (c - (j + 1)) = c by omega, hv] at this
  omega
/-- Where numbers hold no cycle comes to less than 0. -/
theorem cyc_feas {t k : Nat} {s : BS} {L : Nat → Nat} (h : Inv E m t k s L) {x : Nat → Int} (hx : Feas E m x) {v : Nat} : ∀ c, (∀ j, j < c → 0 ≤ s.b (itr E s.b j v)) → x v ≤ x (itr E s.b c v) + sumN (fun i => wby E s.b (itr E s.b i v)) c := by
  intro c
  induction c with
  | zero => intro _; show x v ≤ x v + 0; omega
  | succ c ih =>
    intro hb
    have h1 := ih fun i hi => hb i (by omega)
    have hbc := hb c (by omega)
    rcases h.rng (itr E s.b c v) with h2 | ⟨h2, h3, h4⟩
    · omega
    · have h5 := hx (s.b (itr E s.b c v)).toNat (by omega)
      rw [h4] at h5
      show x v ≤ x (E (s.b (itr E s.b c v)).toNat).src.toNat + (sumN (fun i => wby E s.b (itr E s.b i v)) c + (E (s.b (itr E s.b c v)).toNat).wt)
      omega

/-- Edges by unlike nodes are unlike. -/
theorem by_inj {t k : Nat} {s : BS} {L : Nat → Nat} (h : Inv E m t k s L) {u v : Nat} (hu : 0 ≤ s.b u) (hv : 0 ≤ s.b v) (e : (s.b u).toNat = (s.b v).toNat) : u = v := by
  rcases h.rng u with h1 | ⟨_, _, h1⟩
  · omega
  · rcases h.rng v with h2 | ⟨_, _, h2⟩
    · omega
    · rw [← h1, ← h2, e]

theorem no_rep {b : Nat → Int} {f j : Nat} (hb : ∀ i, i < j → 0 ≤ b (itr E b i f)) (hj : b (itr E b j f) < 0) : ∀ i i', i < i' → i' ≤ j → itr E b i f ≠ itr E b i' f := by
  intro i i' h1 h2 e
  have h3 : itr E b (j - i' + i) f = itr E b j f := by
    rw [itr_add, e, ← itr_add, show j - i' + i' = j by omega]
  have h4 := hb (j - i' + i) (by omega)
  rw [h3] at h4
  omega

/-- Where the rounds end with a fall, the edges lead on from the node that fell, n times at least. -/
theorem bad_chain {n : Nat} (hE : ∀ i, i < m → 0 ≤ (E i).dst) (hS : sumN (fun i => absI (E i).wt) m ≤ 4611686018427387904) (h : 0 ≤ (relaxR n E m).fell) :
    (∃ t k L, Inv E m t k (relaxR n E m).s L) ∧ ∀ j, j ≤ n → 0 ≤ (relaxR n E m).s.b (itr E (relaxR n E m).s.b j (relaxR n E m).fell.toNat) := by
  unfold relaxR at h ⊢
  rcases rounds_inv hE (n + 1) with ⟨ho, hf, L, hI, hL⟩ | ⟨_, hf, _⟩ | ⟨ho, hf, hp, t, k, L, hI⟩
  · refine ⟨⟨_, _, L, hI⟩, ?_⟩
    have hL' := hL (by omega)
    have key : ∀ j, j ≤ n + 1 → n + 1 - j ≤ L (itr E (roundsTo E m (n + 1)).s.b j (roundsTo E m (n + 1)).fell.toNat) := by
      intro j
      induction j with
      | zero => intro _; show n + 1 - 0 ≤ L _; rw [show itr E (roundsTo E m (n + 1)).s.b 0 (roundsTo E m (n + 1)).fell.toNat = (roundsTo E m (n + 1)).fell.toNat from rfl, hL']; omega
      | succ j ih =>
        intro hj
        have h1 := ih (by omega)
        have h2 := hI.step _ (hI.lv _ (show 1 ≤ L (itr E (roundsTo E m (n + 1)).s.b j (roundsTo E m (n + 1)).fell.toNat) by omega))
        show n + 1 - (j + 1) ≤ L (prd E (roundsTo E m (n + 1)).s.b (itr E (roundsTo E m (n + 1)).s.b j (roundsTo E m (n + 1)).fell.toNat))
        omega
    intro j hj
    have := key j (by omega)
    exact hI.lv _ (by omega)
  · omega
  · refine ⟨⟨t, k, L, hI⟩, ?_⟩
    generalize (roundsTo E m (n + 1)).fell.toNat = f at *
    generalize (roundsTo E m (n + 1)).s = s at *
    have key : ∀ j, ∀ i, i ≤ j → 0 ≤ s.b (itr E s.b i f) := by
      intro j
      have step : ∀ j, (∀ i, i < j → 0 ≤ s.b (itr E s.b i f)) → 0 ≤ s.b (itr E s.b j f) := by
        intro j hb
        rcases hI.rng (itr E s.b j f) with h1 | ⟨h1, _⟩
        · exfalso
          have h2 := drop_sum hI f j hb
          rw [hI.root _ h1] at h2
          have h3 : sumN (fun i => absI (wby E s.b (itr E s.b i f))) j ≤ sumN (fun i => absI (E i).wt) m :=
            sum_inj j (fun i => (s.b (itr E s.b i f)).toNat) (fun i => absI (E i).wt) m (fun i => by unfold absI; split <;> omega)
              (fun i hi => by
                have h4 := hb i hi
                rcases hI.rng (itr E s.b i f) with h5 | ⟨_, h5, _⟩ <;> omega)
              (fun i i' h4 h5 e => no_rep hb (by omega) i i' h4 (by omega) (by_inj hI (hb i (by omega)) (hb i' h5) e))
          have h4 : ∀ c, -(sumN (fun i => absI (wby E s.b (itr E s.b i f))) c) ≤ sumN (fun i => wby E s.b (itr E s.b i f)) c := by
            intro c
            induction c with
            | zero => exact Int.le_refl _
            | succ c ih =>
              show -(sumN (fun i => absI (wby E s.b (itr E s.b i f))) c + absI (wby E s.b (itr E s.b c f))) ≤ sumN (fun i => wby E s.b (itr E s.b i f)) c + wby E s.b (itr E s.b c f)
              have : -(absI (wby E s.b (itr E s.b c f))) ≤ wby E s.b (itr E s.b c f) := by unfold absI; split <;> omega
              omega
          have := h4 j
          omega
        · exact h1
      induction j with
      | zero => intro i hi; obtain rfl : i = 0 := by omega
                exact step 0 fun i hi => by omega
      | succ j ih =>
        intro i hi
        by_cases e : i = j + 1
        · subst e; exact step (j + 1) fun i hi => ih i (by omega)
        · exact ih i (by omega)
    intro j _
    exact key j j (Nat.le_refl _)

theorem fell_lt {n : Nat} (hE : EdOk n E m) (hn : 0 < n) : (relaxR n E m).fell.toNat < n := by
  have hs : ∀ s k, k ≤ m → (scanTo E s k).fell.toNat < n := by
    intro s k
    induction k with
    | zero => intro _; exact hn
    | succ k ih =>
      intro hk
      rw [scanTo]
      split
      · exact ih (by omega)
      · obtain ⟨_, _, h1, h2, _⟩ := hE k (by omega)
        unfold edgeStep
        split
        · split <;> (dsimp only; omega)
        · exact ih (by omega)
  have hr : ∀ r, (roundsTo E m r).fell.toNat < n := by
    intro r
    induction r with
    | zero => exact hn
    | succ r ih =>
      rw [roundsTo]
      split
      · exact ih
      · split
        · exact ih
        · exact hs _ m (Nat.le_refl _)
  exact hr _

/-- A cycle from the node to which n steps lead. -/
theorem bad_cycle {n : Nat} (hE : EdOk n E m) (hS : sumN (fun i => absI (E i).wt) m ≤ 4611686018427387904) (h : 0 ≤ (relaxR n E m).fell) (hn : 0 < n) :
    ∃ c, 1 ≤ c ∧ c ≤ n ∧ itr E (relaxR n E m).s.b c (itr E (relaxR n E m).s.b n (relaxR n E m).fell.toNat) = itr E (relaxR n E m).s.b n (relaxR n E m).fell.toNat ∧
      ∀ j, 0 ≤ (relaxR n E m).s.b (itr E (relaxR n E m).s.b j (itr E (relaxR n E m).s.b n (relaxR n E m).fell.toNat)) := by
  obtain ⟨⟨t, k, L, hI⟩, hch⟩ := bad_chain (n := n) (fun i hi => (hE i hi).2.2.1) hS h
  have hf := fell_lt hE hn
  generalize (relaxR n E m).fell.toNat = f at *
  generalize (relaxR n E m).s = s at *
  have hlt : ∀ i, i ≤ n → itr E s.b i f < n := by
    intro i hi
    cases i with
    | zero => exact hf
    | succ i =>
      have h1 := hch i (by omega)
      rcases hI.rng (itr E s.b i f) with h2 | ⟨_, h2, _⟩
      · omega
      · obtain ⟨h3, h4, _⟩ := hE (s.b (itr E s.b i f)).toNat (by omega)
        show (E (s.b (itr E s.b i f)).toNat).src.toNat < n
        omega
  obtain ⟨i, j, hij, hj, e⟩ := pigeon n (fun i => itr E s.b i f) hlt
  have hper : itr E s.b (j - i) (itr E s.b n f) = itr E s.b n f := by
    rw [← itr_add, show j - i + n = (n - i) + j by omega, itr_add, ← e, ← itr_add, show n - i + i = n by omega]
  refine ⟨j - i, by omega, by omega, hper, ?_⟩
  -- all that follow are among the first n + 1
  have hall : ∀ d, ∃ d', i ≤ d' ∧ d' < j ∧ itr E s.b d (itr E s.b n f) = itr E s.b d' f := by
    have hone : ∀ d, i ≤ d → ∃ d', i ≤ d' ∧ d' < j ∧ itr E s.b d f = itr E s.b d' f := by
      intro d
      induction d with
      | zero => intro h0; exact ⟨0, by omega, by omega, rfl⟩
      | succ d ih =>
        intro h0
        by_cases e1 : i = d + 1
        · exact ⟨d + 1, by omega, by omega, rfl⟩
        · obtain ⟨d', h1, h2, h3⟩ := ih (by omega)
          by_cases e2 : d' + 1 = j
          · refine ⟨i, Nat.le_refl _, hij, ?_⟩
            rw [e, ← e2]
            show prd E s.b (itr E s.b d f) = prd E s.b (itr E s.b d' f)
            rw [h3]
          · refine ⟨d' + 1, by omega, by omega, ?_⟩
            show prd E s.b (itr E s.b d f) = prd E s.b (itr E s.b d' f)
            rw [h3]
    intro d
    rw [← itr_add]
    exact hone _ (by omega)
  intro d
  obtain ⟨d', _, h2, h3⟩ := hall d
  rw [h3]
  exact hch d' (by omega)

/-- Where numbers hold the rounds end without a fall. -/
theorem relax_conv {n : Nat} (hE : EdOk n E m) (hS : sumN (fun i => absI (E i).wt) m ≤ 4611686018427387904) {x : Nat → Int} (hx : Feas E m x) : (relaxR n E m).fell < 0 := by
  by_cases hn : 0 < n
  · by_cases h : 0 ≤ (relaxR n E m).fell
    · obtain ⟨c, hc, _, hv, hb⟩ := bad_cycle hE hS h hn
      obtain ⟨⟨t, k, L, hI⟩, _⟩ := bad_chain (n := n) (fun i hi => (hE i hi).2.2.1) hS h
      have h1 := cyc_neg hI hc (fun j _ => hb j) hv
      have h2 := cyc_feas hI hx c (fun j _ => hb j)
      rw [hv] at h2
      omega
    · omega
  · have hm : m = 0 := by
      rcases Nat.eq_zero_or_pos m with h | h
      · exact h
      · have := hE 0 h; omega
    subst hm
    obtain rfl : n = 0 := by omega
    show (roundsTo E 0 1).fell < 0
    rw [rounds_next rfl (Int.le_refl _)]
    show (-1 : Int) < 0
    omega
end Go.Proofs.Ytioceechdombjaa
