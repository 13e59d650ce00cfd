/- Plain words: which names, expressions, signatures may be. No program in sight. -/
import Derived.Test.YtofcjpfbbeamnaaZSigMWorldM
namespace Go.Proofs.Ytofcjpfbbeamnaa

/-! All below a number. -/
def upTo : Nat → (Nat → Bool) → Bool
  | 0, _ => true
  | n + 1, p => upTo n p && p n
theorem upTo_iff (n : Nat) (p : Nat → Bool) : upTo n p = true ↔ ∀ i, i < n → p i = true := by
  induction n with
  | zero => simp [upTo]
  | succ n ih =>
    rw [upTo, Bool.and_eq_true, ih]
    constructor
    · rintro ⟨h1, h2⟩ i hi
      by_cases e : i = n
      · subst e; exact h2
      · exact h1 i (by omega)
    · exact fun h => ⟨fun i hi => h i (by omega), h n (by omega)⟩
theorem upTo_no {n i : Nat} {p : Nat → Bool} (hi : i < n) (h : p i = false) : upTo n p = false := by
  cases hk : upTo n p with
  | false => rfl
  | true => rw [(upTo_iff n p).1 hk i hi] at h; cases h
theorem upTo_yes {n : Nat} {p : Nat → Bool} (h : ∀ i, i < n → p i = true) : upTo n p = true := (upTo_iff n p).2 h
theorem upTo_congr {n : Nat} {p q : Nat → Bool} (h : ∀ i, i < n → p i = q i) : upTo n p = upTo n q := by
  induction n with
  | zero => rfl
  | succ n ih => rw [upTo, upTo, ih fun i hi => h i (by omega), h n (by omega)]

/-! Names. -/
def whI (c : Int) : Bool := decide (c = 32 ∨ c = 9 ∨ c = 10 ∨ c = 13)
def inI (c : Int) : Bool := decide ((c ≠ 124 ∧ c ≠ 92) ∧ (32 ≤ c ∧ c ≤ 126 ∨ (c = 32 ∨ c = 9 ∨ c = 10 ∨ c = 13)))
def inB (c : UInt8) : Bool := inI c.toNat
def byteAt (s : ByteArray) (i : Nat) : UInt8 := s.data.toList.getD i 0
def mayS (s : ByteArray) : Bool := decide (s.size ≤ 100) && upTo s.size fun i => inB (byteAt s i)
def isS (l : List (List UInt8)) (s : ByteArray) : Bool := l.any fun t => s.toList == t
/-- _ ! as let exists forall match par -/
def resS (s : ByteArray) : Bool := isS [[95], [33], [97, 115], [108, 101, 116], [101, 120, 105, 115, 116, 115], [102, 111, 114, 97, 108, 108], [109, 97, 116, 99, 104], [112, 97, 114]] s
/-- true false not and or xor => = distinct ite + - <= < >= > -/
def coreS (s : ByteArray) : Bool := isS [[116, 114, 117, 101], [102, 97, 108, 115, 101], [110, 111, 116], [97, 110, 100], [111, 114], [120, 111, 114], [61, 62], [61], [100, 105, 115, 116, 105, 110, 99, 116], [105, 116, 101], [43], [45], [60, 61], [60], [62, 61], [62]] s
def useS (s : ByteArray) : Bool := mayS s && !resS s
end Go.Proofs.Ytofcjpfbbeamnaa

namespace Go.Proofs.Ytofcjpfbbeamnaa

/-- The first place below n that p holds of; -1: none. -/
def firstI : Nat → (Nat → Bool) → Int
  | 0, _ => -1
  | n + 1, p => if firstI n p ≠ -1 then firstI n p else if p n then n else -1
theorem firstI_none {n : Nat} {p : Nat → Bool} (h : ∀ i, i < n → p i = false) : firstI n p = -1 := by
  induction n with
  | zero => rfl
  | succ n ih => rw [firstI, ih fun i hi => h i (by omega), h n (by omega)]; simp
theorem firstI_hit {n j : Nat} {p : Nat → Bool} (hj : j < n) (h : ∀ i, i < j → p i = false) (hp : p j = true) : firstI n p = j := by
  induction n with
  | zero => omega
  | succ n ih =>
    rw [firstI]
    by_cases e : j = n
    · subst e
      rw [firstI_none h, hp]; simp
    · rw [ih (by omega), if_pos (by omega)]
theorem firstI_cases (n : Nat) (p : Nat → Bool) : (firstI n p = -1 ∧ ∀ i, i < n → p i = false) ∨ ∃ j, j < n ∧ firstI n p = j ∧ p j = true ∧ ∀ i, i < j → p i = false := by
  induction n with
  | zero => exact .inl ⟨rfl, fun i hi => absurd hi (Nat.not_lt_zero _)⟩
  | succ n ih =>
    rcases ih with ⟨h1, h2⟩ | ⟨j, hj, h1, h2, h3⟩
    · cases hp : p n with
      | true => exact .inr ⟨n, by omega, by rw [firstI, h1, hp]; simp, hp, h2⟩
      | false => exact .inl ⟨by rw [firstI, h1, hp]; simp, fun i hi => by
          by_cases e : i = n
          · subst e; exact hp
          · exact h2 i (by omega)⟩
    · exact .inr ⟨j, by omega, by rw [firstI, h1, if_pos (by omega)], h2, h3⟩

def eqS (s t : ByteArray) : Bool := s.toList == t.toList
end Go.Proofs.Ytofcjpfbbeamnaa
