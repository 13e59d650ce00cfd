/- The plain law of OffsetBack. -/
import Derived.Test.YtoppfcfalciibaaOffG
import Derived.Test.YtoppfcfalciibaaOffsetOnce
namespace Go.Proofs.Ytoppfcfalciibaa
open Go.RowKit Go.Maps
set_option maxRecDepth 100000

theorem OrdP.put {n : Nat} {N : Nat → Nd} {e : Nd} {most : Int} {m : Nat} {M : Nat → Nd} {a : Int} (h : OrdP n N) (hp : PutR n N e most m M a 0)
    (he : e.op = 11 → e.num ≠ 0 ∧ (0 ≤ e.a0 ∧ e.a0 < n) ∧ (N e.a0.toNat).op ≠ 11 ∧ (N e.a0.toNat).op ≠ 10) : OrdP m M := by
  obtain ⟨hc, hs, ⟨i, hi, hie, rfl, rfl, rfl⟩ | ⟨hne, _, rfl, rfl, rfl⟩⟩ := hp.ok
  · exact h
  · refine ⟨hc.ext hs hne, fun i hi h11 => ?_⟩
    by_cases hin : i < n
    · rw [extN_lt hin] at h11 ⊢
      obtain ⟨_, ha, _⟩ := hc.add hin h11
      rw [extN_lt (show (N i).a0.toNat < n by omega)]
      exact h.ord i hin h11
    · obtain rfl : i = n := by omega
      rw [extN_at] at h11 ⊢
      obtain ⟨h1, h2, h3, h4⟩ := he h11
      rw [extN_lt (show e.a0.toNat < i by omega)]
      exact ⟨h1, h3, h4⟩
theorem OfT.ext {n m : Nat} {N M : Nat → Nd} {id b k : Int} (h : OfT n N id b k 0) (hM : CheckP m M) (hnm : n ≤ m) (e : ∀ i, i < n → M i = N i) : OfT m M id b k 0 := by
  obtain ⟨hc, i, b', rfl, hi, hs, rfl, ho⟩ := h.good rfl
  exact .ok hM i (by omega) rfl (by rw [e i hi]; exact hs) b' k (ho.congr hc hi e)
theorem OrdP.self {n : Nat} {N : Nat → Nd} {b : Nat} {k : Int} (h : OrdP n N) (hb : b < n) (ho : OfR N b 0 (some (b, k))) (h1 : b ≠ 1) : (N b).op ≠ 11 ∧ (N b).op ≠ 10 ∧ k = 0 := by
  rcases h.of hb ho with ⟨h11, e, _⟩ | ⟨_, e, _⟩ | ⟨p, q, _, r⟩
  · have := (h.chk.add hb h11).2.1; omega
  · exact absurd e h1
  · exact ⟨p, q, r⟩
theorem add_zero_ok {s : Int} (h : mayB s = true) : addOk 0 s = true := by
  unfold addOk
  rw [Int.zero_add, h]; decide
/-- What was put is of that base and that number; the table stays in order. -/
theorem OPutR.back {n : Nat} {N : Nat → Nd} {b s most : Int} {m : Nat} {M : Nat → Nd} {a : Int} (h : OrdP n N) (hp : OPutR n N b s most m M a 0) :
    OrdP m M ∧ OfT m M a b s 0 ∧ n ≤ m ∧ ∀ i, i < n → M i = N i := by
  cases hp with
  | of _ _ _ _ he => exact absurd rfl he
  | zero k' hT hk hz _ _ _ _ hp =>
    subst hz
    obtain ⟨j, rfl, hj, hMj, hM, hb, hpre, _⟩ := hp.good
    refine ⟨h.put hp (fun h11 => absurd h11 (by show ¬ ((10 : Int) = 11); decide)), ?_, by omega, hpre⟩
    have ho : OfR M j 0 (some (1, 0 + (M j).num)) := .num (by rw [hMj]; rfl) (by rw [hMj]; exact add_zero_ok hk)
    rw [hMj, show 0 + (numNd s).num = s from Int.zero_add s] at ho
    exact .ok hM j hj rfl (by rw [hMj]; rfl) 1 s ho
  | same k' hT hk hz h0 =>
    subst h0
    obtain ⟨_, i, b', e1, hi, hs, e2, ho⟩ := hT.good rfl
    have : i = b' := by omega
    subst this
    obtain ⟨_, _, rfl⟩ := h.self hi ho (by omega)
    exact ⟨h, hT, Nat.le_refl _, fun _ _ => rfl⟩
  | add k' hT hk hz h0 _ _ _ _ hp =>
    obtain ⟨_, i, b', e1, hi, hs, e2, ho⟩ := hT.good rfl
    have : i = b' := by omega
    subst this
    obtain ⟨p, q, _⟩ := h.self hi ho (by omega)
    obtain ⟨j, rfl, hj, hMj, hM, hb, hpre, _⟩ := hp.good
    subst e1
    refine ⟨h.put hp (fun _ => ⟨h0, ⟨by show (0 : Int) ≤ i; omega, by show (i : Int) < n; omega⟩, by rw [show (addNd (i : Int) s).a0.toNat = i from Int.toNat_natCast i]; exact p, by rw [show (addNd (i : Int) s).a0.toNat = i from Int.toNat_natCast i]; exact q⟩), ?_, by omega, hpre⟩
    refine .ok hM j hj rfl (by rw [hMj]; rfl) i s (.add (by rw [hMj]; rfl) (by rw [hMj]; exact add_zero_ok hk) ?_)
    rw [hMj, show 0 + (addNd (i : Int) s).num = s from Int.zero_add s, show (addNd (i : Int) s).a0.toNat = i from Int.toNat_natCast i]
    exact .base (by rw [hpre i hi]; exact p) (by rw [hpre i hi]; exact q)
theorem PutR.det {n : Nat} {N : Nat → Nd} {e : Nd} {most : Int} {m m' : Nat} {M M' : Nat → Nd} {a a' er : Int} (h : PutR n N e most m M a 0) (h' : PutR n N e most m' M' a' er) : m = m' ∧ M = M' ∧ a = a' ∧ er = 0 := by
  obtain ⟨hc, hs, ⟨i, hi, hie, rfl, rfl, rfl⟩ | ⟨hne, hm, rfl, rfl, rfl⟩⟩ := h.ok
  · obtain ⟨e1, e2, e3, e4⟩ := h'.old hc hs i hi hie
    exact ⟨e1.symm, e2.symm, e3.symm, e4⟩
  · obtain ⟨e1, e2, e3, e4⟩ := h'.new hc hs hne hm
    exact ⟨e1.symm, e2.symm, e3.symm, e4⟩
theorem OPutR.det {n : Nat} {N : Nat → Nd} {b s most : Int} {m m' : Nat} {M M' : Nat → Nd} {a a' er : Int} (h : OPutR n N b s most m M a 0) (h' : OPutR n N b s most m' M' a' er) : m = m' ∧ M = M' ∧ a = a' ∧ er = 0 := by
  cases h with
  | of _ _ _ _ he => exact absurd rfl he
  | zero k hT hk hz _ _ _ _ hp =>
    cases h' with
    | of _ _ _ hT' he => exact absurd (hT.det hT').2.2.symm he
    | own _ _ hT' hb => exact absurd (hT.det hT').1.symm hb
    | over _ _ hk' => rw [hk] at hk'; cases hk'
    | zero _ _ _ _ _ _ _ _ hp' => exact hp.det hp'
    | same _ _ _ hz' => exact absurd hz hz'
    | add _ _ _ hz' => exact absurd hz hz'
  | same k hT hk hz h0 =>
    cases h' with
    | of _ _ _ hT' he => exact absurd (hT.det hT').2.2.symm he
    | own _ _ hT' hb => exact absurd (hT.det hT').1.symm hb
    | over _ _ hk' => rw [hk] at hk'; cases hk'
    | zero _ _ _ hz' => exact absurd hz' hz
    | same => exact ⟨rfl, rfl, rfl, rfl⟩
    | add _ _ _ _ h0' => exact absurd h0 h0'
  | add k hT hk hz h0 _ _ _ _ hp =>
    cases h' with
    | of _ _ _ hT' he => exact absurd (hT.det hT').2.2.symm he
    | own _ _ hT' hb => exact absurd (hT.det hT').1.symm hb
    | over _ _ hk' => rw [hk] at hk'; cases hk'
    | zero _ _ _ hz' => exact absurd hz' hz
    | same _ _ _ _ h0' => exact absurd h0' h0
    | add _ _ _ _ _ _ _ _ _ hp' => exact hp.det hp'
theorem OAddR.back {n : Nat} {N : Nat → Nd} {id x most : Int} {m : Nat} {M : Nat → Nd} {a : Int} (h : OrdP n N) (hp : OAddR n N id x most m M a 0) :
    OrdP m M ∧ (∃ b k, OfT n N id b k 0 ∧ addOk k x = true ∧ OfT m M a b (k + x) 0 ∧ OPutR n N b (k + x) most m M a 0) ∧ n ≤ m ∧ ∀ i, i < n → M i = N i := by
  cases hp with
  | of _ _ _ _ he => exact absurd rfl he
  | put b k hT ho _ _ _ _ hp =>
    obtain ⟨h1, h2, h3, h4⟩ := hp.back h
    exact ⟨h1, ⟨b, k, hT, ho, h2, hp⟩, h3, h4⟩
/-- Two sums are one. -/
theorem OAddR.both {n n' : Nat} {N N' : Nat → Nd} {a id x y most : Int} (h : OrdP n N) (h1 : OAddR n N a x most n' N' id 0) {m m' : Nat} {M M' : Nat → Nd} {p q er : Int}
    (h2 : OAddR n' N' id y most m M p 0) (hs : addOk x y = true) (h3 : OAddR n' N' a (x + y) most m' M' q er) : m = m' ∧ M = M' ∧ p = q ∧ er = 0 ∧ OrdP m M := by
  obtain ⟨hO, ⟨b, k, hT, ho, hT', _⟩, hnn, hpre⟩ := h1.back h
  obtain ⟨hO2, ⟨b2, k2, hT2, ho2, _, hp2⟩, _, _⟩ := h2.back hO
  obtain ⟨rfl, rfl, _⟩ := hT2.det hT'
  have hT3 := hT.ext hO.chk hnn hpre
  have hadd : addOk k (x + y) = true := by
    unfold addOk at ho ho2 hs ⊢
    simp only [Bool.and_eq_true] at ho ho2 hs ⊢
    exact ⟨⟨ho.1.1, hs.2⟩, by rw [← Int.add_assoc]; exact ho2.2⟩
  cases h3 with
  | of _ _ _ hT4 he => exact absurd (hT3.det hT4).2.2.symm he
  | over _ _ hT4 ho4 =>
    obtain ⟨_, rfl, _⟩ := hT3.det hT4
    rw [hadd] at ho4; cases ho4
  | put _ _ hT4 _ _ _ _ _ hp4 =>
    obtain ⟨rfl, rfl, _⟩ := hT3.det hT4
    rw [← Int.add_assoc] at hp4
    obtain ⟨e1, e2, e3, e4⟩ := hp2.det hp4
    exact ⟨e1, e2, e3, e4, hO2⟩
theorem LeT.ord {n : Nat} {N : Nat → Nd} {a b c most : Int} {m : Nat} {M : Nat → Nd} {id er : Int} {is : Bool} (h : OrdP n N) (hl : LeT n N a b c most m M id is er) (he : er = 0) : OrdP m M := by
  cases hl with
  | err _ _ _ _ _ h' => exact absurd he h'
  | tru => exact h
  | fls _ _ _ _ _ _ _ _ hp => subst he; exact h.put hp (fun h11 => absurd h11 (by show ¬ ((1 : Int) = 11); decide))
  | diff _ _ _ _ _ _ _ _ _ hp => subst he; exact h.put hp (fun h11 => absurd h11 (by show ¬ ((12 : Int) = 11); decide))
end Go.Proofs.Ytoppfcfalciibaa
