/- What term.Reach computes: plain words. -/
import Derived.Test.YtoppfcfalciibaaGathL
namespace Go.Proofs.Ytoppfcfalciibaa
open Go.RowKit

def b2i (b : Bool) : Int := if b then 1 else 0
/-- Whether j is one of the first k roots. -/
def rootB (R : Nat → Int) (k j : Nat) : Bool := (List.range k).any fun i => R i == (j : Int)
/-- The marks when k nodes have been gone through, the last one first. -/
def mkB (N : Nat → Nd) (n : Nat) (S : Nat → Bool) : Nat → Nat → Bool
  | 0, j => S j
  | k + 1, j => mkB N n S k j || (mkB N n S k (n - 1 - k) && (argsN N (n - 1 - k)).contains (j : Int))
def outL (M : Nat → Bool) : Nat → List Int
  | 0 => []
  | k + 1 => if M k then outL M k ++ [(k : Int)] else outL M k

theorem rootB_succ (R : Nat → Int) (k j : Nat) : rootB R (k + 1) j = (rootB R k j || R k == (j : Int)) := by
  unfold rootB
  rw [List.range_succ, List.any_append]
  simp
theorem rootB_iff {R : Nat → Int} {k j : Nat} : rootB R k j = true ↔ ∃ i, i < k ∧ R i = (j : Int) := by
  unfold rootB
  rw [List.any_eq_true]
  constructor
  · rintro ⟨i, hi, h⟩; exact ⟨i, List.mem_range.1 hi, by simpa using h⟩
  · rintro ⟨i, hi, h⟩; exact ⟨i, List.mem_range.2 hi, by simpa using h⟩
theorem outL_len (M : Nat → Bool) : ∀ k, (outL M k).length ≤ k
  | 0 => Nat.le_refl _
  | k + 1 => by
    have := outL_len M k
    unfold outL
    split
    · rw [List.length_append, List.length_singleton]; omega
    · omega
theorem outL_mem (M : Nat → Bool) (x : Int) : ∀ k, x ∈ outL M k ↔ ∃ i : Nat, x = i ∧ i < k ∧ M i = true
  | 0 => ⟨fun h => (by cases h), fun ⟨i, _, h, _⟩ => absurd h (Nat.not_lt_zero i)⟩
  | k + 1 => by
    have ih := outL_mem M x k
    unfold outL
    split
    · rename_i hb
      rw [List.mem_append, ih, List.mem_singleton]
      constructor
      · rintro (⟨i, h1, h2, h3⟩ | h)
        · exact ⟨i, h1, by omega, h3⟩
        · exact ⟨k, h, by omega, hb⟩
      · rintro ⟨i, h1, h2, h3⟩
        by_cases hik : i = k
        · subst hik; exact .inr h1
        · exact .inl ⟨i, h1, by omega, h3⟩
    · rename_i hb
      rw [ih]
      constructor
      · rintro ⟨i, h1, h2, h3⟩
        exact ⟨i, h1, by omega, h3⟩
      · rintro ⟨i, h1, h2, h3⟩
        by_cases hik : i = k
        · subst hik; exact absurd h3 hb
        · exact ⟨i, h1, by omega, h3⟩
theorem outL_congr {M M' : Nat → Bool} : ∀ k, (∀ i, i < k → M i = M' i) → outL M k = outL M' k
  | 0, _ => rfl
  | k + 1, h => by unfold outL; rw [h k (by omega), outL_congr k fun i hi => h i (by omega)]
theorem outL_up (M : Nat → Bool) : ∀ k i j, i < j → j < (outL M k).length → (outL M k).getD i 0 < (outL M k).getD j 0
  | 0, _, _, _, h => absurd h (Nat.not_lt_zero _)
  | k + 1, i, j, hij, hj => by
    have hm := fun x hx => (outL_mem M x k).1 hx
    unfold outL at hj ⊢
    split at hj
    · rename_i hb
      rw [if_pos hb]
      rw [List.length_append, List.length_singleton] at hj
      have hi : i < (outL M k).length := by omega
      rw [List.getD_eq_getElem?_getD, List.getElem?_append_left hi, ← List.getD_eq_getElem?_getD]
      by_cases e : j < (outL M k).length
      · rw [List.getD_eq_getElem?_getD (i := j), List.getElem?_append_left e, ← List.getD_eq_getElem?_getD]
        exact outL_up M k i j hij e
      · have e' : j = (outL M k).length := by omega
        rw [List.getD_eq_getElem?_getD (i := j), List.getElem?_append_right (by omega), e', Nat.sub_self]
        obtain ⟨q, h1, h2, _⟩ := hm ((outL M k).getD i 0) (by rw [List.getD_eq_getElem?_getD, List.getElem?_eq_getElem hi]; exact List.getElem_mem hi)
        rw [h1]
        simp
        omega
    · rename_i hb
      rw [if_neg hb]
      exact outL_up M k i j hij hj

section
variable {N : Nat → Nd} {n : Nat} {S : Nat → Bool}
theorem mkB_mono (k j : Nat) (h : mkB N n S k j = true) : ∀ d, mkB N n S (k + d) j = true
  | 0 => h
  | d + 1 => by
    show (mkB N n S (k + d) j || _) = true
    rw [mkB_mono k j h d]; rfl
theorem mkB_le {k k' j : Nat} (h : mkB N n S k j = true) (hk : k ≤ k') : mkB N n S k' j = true := by
  have := mkB_mono k j h (k' - k)
  rwa [show k + (k' - k) = k' by omega] at this
/-- A node that has been gone through keeps its mark. -/
theorem mkB_stay (hc : CheckP n N) {k j : Nat} (hj : j < n) (hk : n - 1 - k ≤ j) : mkB N n S (k + 1) j = mkB N n S k j := by
  show (mkB N n S k j || (mkB N n S k (n - 1 - k) && (argsN N (n - 1 - k)).contains (j : Int))) = _
  have : (argsN N (n - 1 - k)).contains (j : Int) = false := by
    rw [Bool.eq_false_iff]
    intro h
    have h := List.contains_iff_mem.1 h
    have := (hc.argsIn (by omega) h).2
    omega
  rw [this, Bool.and_false, Bool.or_false]
theorem mkB_final (hc : CheckP n N) {j : Nat} (hj : j < n) : ∀ d, n - 1 - j + d ≤ n → mkB N n S (n - 1 - j + d) j = mkB N n S (n - 1 - j) j
  | 0, _ => rfl
  | d + 1, h => by
    rw [← Nat.add_assoc, mkB_stay hc hj (by omega)]
    exact mkB_final hc hj d (by omega)
theorem mkB_root {j : Nat} (h : S j = true) : mkB N n S n j = true := mkB_le (k := 0) h (Nat.zero_le _)
theorem mkB_closed (hc : CheckP n N) {i : Nat} (hi : i < n) (h : mkB N n S n i = true) {x : Int} (hx : x ∈ argsN N i) : mkB N n S n x.toNat = true := by
  have h1 := mkB_final (S := S) hc hi (i + 1) (by omega)
  rw [show n - 1 - i + (i + 1) = n by omega, h] at h1
  have h0 := (hc.argsIn hi hx).1
  refine mkB_le (k := n - 1 - i + 1) ?_ (by omega)
  show (mkB N n S (n - 1 - i) x.toNat || (mkB N n S (n - 1 - i) (n - 1 - (n - 1 - i)) && (argsN N (n - 1 - (n - 1 - i))).contains (x.toNat : Int))) = true
  rw [show n - 1 - (n - 1 - i) = i by omega, ← h1, show ((x.toNat : Nat) : Int) = x by omega, List.contains_iff_mem.2 hx]
  simp
/-- From marks that are closed nothing more comes. -/
theorem mkB_idem (hc : CheckP n N) (hcl : ∀ i, i < n → S i = true → ∀ x ∈ argsN N i, S x.toNat = true) : ∀ k, k ≤ n → ∀ j, mkB N n S k j = S j
  | 0, _, _ => rfl
  | k + 1, hk, j => by
    show (mkB N n S k j || (mkB N n S k (n - 1 - k) && (argsN N (n - 1 - k)).contains (j : Int))) = S j
    rw [mkB_idem hc hcl k (by omega) j, mkB_idem hc hcl k (by omega) (n - 1 - k)]
    cases h1 : S j with
    | true => rfl
    | false =>
      rw [Bool.false_or, Bool.and_eq_false_iff]
      cases h2 : S (n - 1 - k) with
      | false => exact .inl rfl
      | true =>
        refine .inr ?_
        rw [Bool.eq_false_iff]
        intro h
        have := hcl (n - 1 - k) (by omega) h2 _ (List.contains_iff_mem.1 h)
        rw [show ((j : Int)).toNat = j by omega, h1] at this
        cases this
end
/-- The list of what is reached, as roots: the same marks. -/
theorem rootB_out {M : Nat → Bool} {n j : Nat} (hj : j < n) : rootB (fun i => (outL M n).getD i 0) (outL M n).length j = M j := by
  rw [Bool.eq_iff_iff, rootB_iff]
  constructor
  · rintro ⟨i, hi, h⟩
    have hmem : (outL M n).getD i 0 ∈ outL M n := by rw [List.getD_eq_getElem?_getD, List.getElem?_eq_getElem hi]; exact List.getElem_mem hi
    rw [h, outL_mem] at hmem
    obtain ⟨q, h1, _, h3⟩ := hmem
    rwa [show j = q by omega]
  · intro h
    obtain ⟨i, hi, he⟩ := List.getElem_of_mem ((outL_mem M (j : Int) n).2 ⟨j, rfl, hj, h⟩)
    exact ⟨i, hi, by show (outL M n).getD i 0 = _; rw [List.getD_eq_getElem?_getD, List.getElem?_eq_getElem hi]; exact he⟩
end Go.Proofs.Ytoppfcfalciibaa
