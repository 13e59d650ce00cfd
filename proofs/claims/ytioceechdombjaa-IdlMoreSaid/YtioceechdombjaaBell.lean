/- Plain law: edges, and the rounds in which potentials fall. No program in sight. -/
namespace Go.Proofs.Ytioceechdombjaa

structure Ed where
  src : Int
  dst : Int
  wt : Int

instance : Inhabited Ed := ⟨⟨0, 0, 0⟩⟩

/-- Potentials, and by which edge each node was come to. -/
structure BS where
  p : Nat → Int
  b : Nat → Int

def upd (f : Nat → Int) (i : Nat) (x : Int) : Nat → Int := fun j => if j = i then x else f j

/-- A state, the node that fell last (-1: none), whether it is over. -/
structure SR where
  s : BS
  fell : Int
  out : Bool

/-- One edge, the i-th. -/
def edgeStep (e : Ed) (i : Nat) (r : SR) : SR :=
  if r.s.p e.src.toNat + e.wt < r.s.p e.dst.toNat then
    if r.s.p e.src.toNat + e.wt < -4611686018427387904 then ⟨⟨upd r.s.p e.dst.toNat (r.s.p e.src.toNat + e.wt), upd r.s.b e.dst.toNat i⟩, e.dst, true⟩
    else ⟨⟨upd r.s.p e.dst.toNat (r.s.p e.src.toNat + e.wt), upd r.s.b e.dst.toNat i⟩, e.dst, false⟩
  else r

/-- A round, up to its k-th edge. -/
def scanTo (E : Nat → Ed) (s : BS) : Nat → SR
  | 0 => ⟨s, -1, false⟩
  | k + 1 => if (scanTo E s k).out then scanTo E s k else edgeStep (E k) k (scanTo E s k)

/-- Rounds. -/
def roundsTo (E : Nat → Ed) (m : Nat) : Nat → SR
  | 0 => ⟨⟨fun _ => 0, fun _ => -1⟩, 0, false⟩
  | r + 1 => if (roundsTo E m r).out then roundsTo E m r else if (roundsTo E m r).fell < 0 then roundsTo E m r else scanTo E (roundsTo E m r).s m

/-- What relax comes to. -/
def relaxR (n : Nat) (E : Nat → Ed) (m : Nat) : SR := roundsTo E m (n + 1)

/-- The edges are of nodes below n, their weights within Most. -/
def EdOk (n : Nat) (E : Nat → Ed) (m : Nat) : Prop :=
  ∀ i, i < m → 0 ≤ (E i).src ∧ (E i).src < n ∧ 0 ≤ (E i).dst ∧ (E i).dst < n ∧ -4611686018427387904 ≤ (E i).wt ∧ (E i).wt ≤ 4611686018427387904

/-- Potentials are from -Most to 0. -/
def Pin (r : SR) : Prop := ∀ j, -4611686018427387904 ≤ r.s.p j ∧ r.s.p j ≤ 0

theorem edge_ge {e : Ed} {i : Nat} {r : SR} (h : r.s.p e.dst.toNat ≤ r.s.p e.src.toNat + e.wt) : edgeStep e i r = r := by
  unfold edgeStep; rw [if_neg (by omega)]
theorem edge_out {e : Ed} {i : Nat} {r : SR} (h : r.s.p e.src.toNat + e.wt < r.s.p e.dst.toNat) (h2 : r.s.p e.src.toNat + e.wt < -4611686018427387904) :
    edgeStep e i r = ⟨⟨upd r.s.p e.dst.toNat (r.s.p e.src.toNat + e.wt), upd r.s.b e.dst.toNat i⟩, e.dst, true⟩ := by
  unfold edgeStep; rw [if_pos h, if_pos h2]
theorem edge_in {e : Ed} {i : Nat} {r : SR} (h : r.s.p e.src.toNat + e.wt < r.s.p e.dst.toNat) (h2 : -4611686018427387904 ≤ r.s.p e.src.toNat + e.wt) :
    edgeStep e i r = ⟨⟨upd r.s.p e.dst.toNat (r.s.p e.src.toNat + e.wt), upd r.s.b e.dst.toNat i⟩, e.dst, false⟩ := by
  unfold edgeStep; rw [if_pos h, if_neg (by omega)]
theorem scan_succ {E : Nat → Ed} {s : BS} {k : Nat} (h : (scanTo E s k).out = false) : scanTo E s (k + 1) = edgeStep (E k) k (scanTo E s k) := by
  rw [scanTo, if_neg (by simp [h])]
theorem scan_out {E : Nat → Ed} {s : BS} {k : Nat} (h : (scanTo E s k).out = true) : ∀ m, k ≤ m → scanTo E s m = scanTo E s k := by
  intro m hm
  induction m with
  | zero => obtain rfl : k = 0 := by omega
            rfl
  | succ m ih =>
    by_cases e : k = m + 1
    · subst e; rfl
    · rw [scanTo, ih (by omega), if_pos h]
theorem rounds_next {E : Nat → Ed} {m r : Nat} (h : (roundsTo E m r).out = false) (h2 : 0 ≤ (roundsTo E m r).fell) : roundsTo E m (r + 1) = scanTo E (roundsTo E m r).s m := by
  rw [roundsTo, if_neg (by simp [h]), if_neg (by omega)]
theorem rounds_done {E : Nat → Ed} {m r : Nat} (h : (roundsTo E m r).out = true ∨ (roundsTo E m r).fell < 0) : ∀ k, r ≤ k → roundsTo E m k = roundsTo E m r := by
  intro k hk
  induction k with
  | zero => obtain rfl : r = 0 := by omega
            rfl
  | succ k ih =>
    by_cases e : r = k + 1
    · subst e; rfl
    · rw [roundsTo, ih (by omega)]
      rcases h with h | h
      · rw [if_pos h]
      · by_cases ho : (roundsTo E m r).out = true
        · rw [if_pos ho]
        · rw [if_neg ho, if_pos h]
theorem final_out {n : Nat} {E : Nat → Ed} {m r k : Nat} {q : BS} {S : SR} (hq : roundsTo E m (r + 1) = scanTo E q m) (hk : k < m) (hst : scanTo E q (k + 1) = S) (ho : S.out = true) (hr : r < n + 1) : relaxR n E m = S := by
  have h1 : roundsTo E m (r + 1) = S := by rw [hq, scan_out (k := k + 1) (by rw [hst]; exact ho) m (by omega), hst]
  unfold relaxR
  rw [rounds_done (r := r + 1) (.inl (by rw [h1]; exact ho)) (n + 1) (by omega), h1]
theorem final_fell {n : Nat} {E : Nat → Ed} {m r : Nat} {S : SR} (hq : roundsTo E m (r + 1) = S) (ho : S.fell < 0) (hr : r < n + 1) : relaxR n E m = S := by
  unfold relaxR
  rw [rounds_done (r := r + 1) (.inr (by rw [hq]; exact ho)) (n + 1) (by omega), hq]
theorem Pin.upd {r : SR} (h : Pin r) {y : Nat} {d : Int} {b : Nat → Int} {f : Int} {o : Bool} (h0 : -4611686018427387904 ≤ d) (h1 : d ≤ 0) : Pin ⟨⟨upd r.s.p y d, b⟩, f, o⟩ := by
  intro j
  show _ ≤ Proofs.Ytioceechdombjaa.upd _ _ _ j ∧ Proofs.Ytioceechdombjaa.upd _ _ _ j ≤ 0
  unfold Proofs.Ytioceechdombjaa.upd
  split
  · omega
  · exact h j
end Go.Proofs.Ytioceechdombjaa
