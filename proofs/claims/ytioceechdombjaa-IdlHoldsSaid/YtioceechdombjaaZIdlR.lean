/- Plain: in a world in which nothing overflows a lemma holds. No program in sight. -/
import Derived.Test.YtioceechdombjaaZEvWToEvB
import Derived.Test.YtioceechdombjaaZIdlFIdlGIdlP
namespace Go.Proofs.Ytioceechdombjaa

theorem neg_par (x : Int) : negL x % 2 = 1 - x % 2 := by unfold negL; split <;> omega
theorem lemma_holds {g : Sg} {W : Wd} {n : Nat} {N : Nat → Nd} (hE : EvOk g W n N) {xs : List Int} (hxs : ∀ x ∈ xs, badLit n N x = false) (hL : ckB n N (xs.map negL) = true)
    (ho : ∀ i, i < n → (evF g W N n i).2 = false) : ∃ x ∈ xs, ((evF g W N n (x / 2).toNat).1 == 1) = (x % 2 == 0) := by
  refine Classical.byContradiction fun hno => ?_
  have hB : icB n N (xs.map negL) = true := by unfold ckB at hL; simp only [Bool.and_eq_true] at hL; exact hL.2
  refine (icB_iff (icK_zero hB)).1 hB ⟨fun i => (evF g W N n i).1, ?_⟩
  intro e he
  obtain ⟨y, hy, hd, rfl⟩ := edsL_mem.1 he
  obtain ⟨x, hx, rfl⟩ := List.mem_map.1 hy
  obtain ⟨_, _, _, h2⟩ := bad_neg (hxs x hx)
  have hop : (N (x / 2).toNat).op = 12 := by have := hd; unfold isD at this; rw [h2] at this; simpa using this
  obtain ⟨hx0, hlt, _⟩ := badLit_lt (hxs x hx)
  have hv := ev_diff hE hlt hop (ho _ hlt)
  have hne : ¬ (((evF g W N n (x / 2).toNat).1 == 1) = (x % 2 == 0)) := fun h => hno ⟨x, hx, h⟩
  rw [hv, bI_one] at hne
  unfold edOf
  rw [h2, neg_par]
  by_cases hp : x % 2 = 0
  · rw [if_pos (by omega)]
    have : ¬ ((evF g W N n (N (x / 2).toNat).a0.toNat).1 - (evF g W N n (N (x / 2).toNat).a1.toNat).1 ≤ (N (x / 2).toNat).num) := fun h => hne (by rw [decide_eq_true h, hp]; rfl)
    show (evF g W N n (N (x / 2).toNat).a1.toNat).1 ≤ (evF g W N n (N (x / 2).toNat).a0.toNat).1 + (-(N (x / 2).toNat).num - 1)
    omega
  · rw [if_neg (by omega)]
    have : (evF g W N n (N (x / 2).toNat).a0.toNat).1 - (evF g W N n (N (x / 2).toNat).a1.toNat).1 ≤ (N (x / 2).toNat).num := Classical.byContradiction fun h => hne (by rw [decide_eq_false h]; exact (beq_eq_false_iff_ne.2 hp).symm)
    show (evF g W N n (N (x / 2).toNat).a0.toNat).1 ≤ (evF g W N n (N (x / 2).toNat).a1.toNat).1 + (N (x / 2).toNat).num
    omega
/-- The statement's loop: is some literal true? -/
def someT (g : Sg) (W : Wd) (n : Nat) (N : Nat → Nd) (f : Nat → Int) : Nat → Bool
  | 0 => false
  | k + 1 => someT g W n N f k || (((evF g W N n (f k / 2).toNat).1 == 1) == (f k % 2 == 0))
theorem someT_yes {g : Sg} {W : Wd} {n : Nat} {N : Nat → Nd} {f : Nat → Int} {i : Nat} (h : ((evF g W N n (f i / 2).toNat).1 == 1) = (f i % 2 == 0)) : ∀ k, i < k → someT g W n N f k = true
  | 0, hi => by omega
  | k + 1, hi => by
    unfold someT
    by_cases e : i = k
    · subst e; rw [h]; simp
    · rw [someT_yes h k (by omega)]; rfl
end Go.Proofs.Ytioceechdombjaa
