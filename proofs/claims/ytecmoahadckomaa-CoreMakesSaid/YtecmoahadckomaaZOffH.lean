/- Plain: a node is worth its base's worth and its number; what a difference that is put is worth. No program in sight. -/
import Derived.Test.YtecmoahadckomaaZEvSEvB
import Derived.Test.YtecmoahadckomaaZOffDOffGR11Of
namespace Go.Proofs.Ytecmoahadckomaa

theorem ofR_value {g : Sg} {W : Wd} {n : Nat} {N : Nat → Nd} (h : CheckP n N) {i : Nat} {k : Int} {r : Option (Nat × Int)} (hr : OfR N i k r) :
    i < n → (evF g W N n i).2 = false → ∀ b s, r = some (b, s) → b < n ∧ (evF g W N n b).2 = false ∧ (evF g W N n i).1 = (evF g W N n b).1 + (s - k) := by
  induction hr with
  | @add i k r h11 ok t ih =>
    intro hi ho b s e
    obtain ⟨hl, ha, _⟩ := h.add hi h11
    obtain ⟨hov, hw, hv⟩ := ev_back h hi ho
    have h0 : (evF g W N n (N i).a0.toNat).2 = false := hov 0 (by omega)
    obtain ⟨hb, hbo, hbv⟩ := ih (by omega) h0 b s e
    obtain ⟨_, hx⟩ := way_add h11 hw
    have hx : (evF g W N n i).1 = (evF g W N n (N i).a0.toNat).1 + (N i).num := hv.trans hx
    exact ⟨hb, hbo, by omega⟩
  | addNo => intro _ _ b s e; cases e
  | @num i k h10 ok =>
    intro hi ho b s e
    injection e with e
    injection e with e1 e2
    subst e1 e2
    have h2 := h.two
    obtain ⟨_, _, hv⟩ := ev_back h hi ho
    rw [way_num h10] at hv
    have hv : (evF g W N n i).1 = (N i).num := hv
    refine ⟨by omega, by rw [ev_zero h], ?_⟩
    rw [ev_zero h, hv]
    show (N i).num = 0 + _
    omega
  | numNo => intro _ _ b s e; cases e
  | @base i k h1 h2 =>
    intro hi ho b s e
    injection e with e
    injection e with e1 e2
    subst e1 e2
    exact ⟨hi, ho, by omega⟩
theorem DiffT.good {n : Nat} {N : Nat → Nd} {a b c x y d er : Int} (h : DiffT n N a b c x y d er) (he : er = 0) :
    CheckP n N ∧ ∃ (i j p q : Nat) (k l : Int), a = i ∧ i < n ∧ (N i).sort = 1 ∧ OfR N i 0 (some (p, k)) ∧ x = p ∧ b = j ∧ j < n ∧ (N j).sort = 1 ∧ OfR N j 0 (some (q, l)) ∧ y = q ∧ subOk c k = true ∧ addOk (c - k) l = true ∧ d = c - k + l := by
  cases h with
  | e1 x m er h hn => exact absurd he hn
  | e2 x m h y k er h' hn => exact absurd he hn
  | over => cases he
  | ok x m h y k h' h1 h2 =>
    obtain ⟨hc, i, p, ea, hi, si, ex, hp⟩ := h.good rfl
    obtain ⟨_, j, q, eb, hj, sj, ey, hq⟩ := h'.good rfl
    exact ⟨hc, i, j, p, q, m, k, ea, hi, si, hp, ex, eb, hj, sj, hq, ey, h1, h2, rfl⟩
theorem LeT.good {n : Nat} {N : Nat → Nd} {a b c most : Int} {m : Nat} {M : Nat → Nd} {id : Int} {is : Bool} {er : Int} (h : LeT n N a b c most m M id is er) (he : er = 0) :
    (∃ x y d, DiffT n N a b c x y d 0 ∧ (x = y ∧ 0 ≤ d ∧ id = 0 ∨ x = y ∧ d < 0 ∧ (0 ≤ id ∧ id < m) ∧ M id.toNat = notNd ∨ x ≠ y ∧ (0 ≤ id ∧ id < m) ∧ M id.toNat = diffNd x y d)) ∧ (n ≤ m ∧ m ≤ n + 1) ∧ ∀ i, i < n → M i = N i := by
  cases h with
  | err _ _ _ _ h hn => exact absurd he hn
  | tru x d h hd => exact ⟨⟨x, x, d, h, .inl ⟨rfl, hd, rfl⟩⟩, ⟨Nat.le_refl _, by omega⟩, fun _ _ => rfl⟩
  | fls x d h hd m M id er hp =>
    subst he
    obtain ⟨j, rfl, hj, hM, _, hm, hold, _⟩ := hp.good
    exact ⟨⟨x, x, d, h, .inr (.inl ⟨rfl, hd, ⟨by omega, by omega⟩, by rw [Int.toNat_natCast]; exact hM⟩)⟩, hm, hold⟩
  | diff x y d h hxy m M id er hp =>
    subst he
    obtain ⟨j, rfl, hj, hM, _, hm, hold, _⟩ := hp.good
    exact ⟨⟨x, y, d, h, .inr (.inr ⟨hxy, ⟨by omega, by omega⟩, by rw [Int.toNat_natCast]; exact hM⟩)⟩, hm, hold⟩
/-- The places that Le takes stand in the table. -/
theorem LeT.ins {n : Nat} {N : Nat → Nd} {a b c most : Int} {m : Nat} {M : Nat → Nd} {id : Int} {is : Bool} {er : Int} (h : LeT n N a b c most m M id is er) (he : er = 0) : (0 ≤ a ∧ a < n) ∧ (0 ≤ b ∧ b < n) ∧ (n ≤ m ∧ m ≤ n + 1) ∧ (0 ≤ id ∧ id < m) := by
  obtain ⟨⟨x, y, d, hd, hx⟩, hm, _⟩ := h.good he
  obtain ⟨hc, i, j, p, q, k, l, rfl, hi, _, _, _, rfl, hj, _⟩ := hd.good rfl
  have := hc.two
  omega
/-- What was put is worth 1 just if the nodes differ by at most that. -/
theorem holds_law {g : Sg} {W : Wd} {n : Nat} {N : Nat → Nd} {a b c most : Int} {m : Nat} {M : Nat → Nd} {id : Int} {is : Bool} {er : Int} (h : LeT n N a b c most m M id is er) (he : er = 0) (hE : EvOk g W m M)
    (ha : (evF g W M m a.toNat).2 = false) (hb : (evF g W M m b.toNat).2 = false) (hi2 : (evF g W M m id.toNat).2 = false) :
    ((evF g W M m id.toNat).1 == 1) = atMB (evF g W M m a.toNat).1 (evF g W M m b.toNat).1 c := by
  obtain ⟨⟨x, y, d, hd, hx⟩, hm, hM⟩ := h.good he
  obtain ⟨hc, i, j, p, q, k, l, rfl, hi, si, hp, rfl, rfl, hj, sj, hq, rfl, h1, h2, rfl⟩ := hd.good rfl
  rw [Int.toNat_natCast] at ha hb ⊢
  rw [Int.toNat_natCast]
  obtain ⟨hpm, hpo, va⟩ := ofR_value hE.chk (hp.congr hc hi hM) (by omega) ha p k rfl
  obtain ⟨hqm, hqo, vb⟩ := ofR_value hE.chk (hq.congr hc hj hM) (by omega) hb q l rfl
  have hz := mayW_nz hE.may
  have ta := ev_is hE (i := i) (by omega)
  have tb := ev_is hE (i := j) (by omega)
  rw [hM i hi, si, isB_int hz] at ta
  rw [hM j hj, sj, isB_int hz] at tb
  unfold subOk at h1
  simp only [Bool.and_eq_true] at h1
  rw [atMB_may ta tb h1.1.1]
  rcases hx with ⟨e, hd0, rfl⟩ | ⟨e, hd0, hid, hn⟩ | ⟨hne, hid, hn⟩
  · have : p = q := by omega
    subst this
    rw [show (0 : Int).toNat = 0 from rfl, ev_true hE.chk, decide_eq_true (by omega : (evF g W M m i).1 - (evF g W M m j).1 ≤ c)]
    rfl
  · have : p = q := by omega
    subst this
    obtain ⟨_, _, hv⟩ := ev_back hE.chk (j := id.toNat) (by omega) hi2
    rw [hn, way_not rfl] at hv
    have hv : (evF g W M m id.toNat).1 = 1 - (evF g W M m 0).1 := hv
    rw [ev_true hE.chk] at hv
    rw [hv, decide_eq_false (by omega : ¬ (evF g W M m i).1 - (evF g W M m j).1 ≤ c)]
    rfl
  · have ho : (M id.toNat).op = 12 := by rw [hn]; rfl
    have hv := ev_diff hE (j := id.toNat) (by omega) ho hi2
    rw [hn] at hv
    have hv : (evF g W M m id.toNat).1 = bI (decide ((evF g W M m p).1 - (evF g W M m q).1 ≤ c - k + l)) := hv
    rw [hv, bI_one]
    by_cases hle : (evF g W M m p).1 - (evF g W M m q).1 ≤ c - k + l
    · rw [decide_eq_true hle, decide_eq_true (by omega)]
    · rw [decide_eq_false hle, decide_eq_false (by omega)]
end Go.Proofs.Ytecmoahadckomaa
