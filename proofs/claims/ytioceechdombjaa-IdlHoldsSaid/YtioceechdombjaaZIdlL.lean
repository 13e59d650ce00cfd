/- Layer 25: what edges literals have, plain words. -/
import Derived.Test.YtioceechdombjaaZGraphEGraphFPotL
import Derived.Test.YtioceechdombjaaZKindA
import Derived.Test.YtioceechdombjaaZAtmBAtmM
namespace Go.Proofs.Ytioceechdombjaa
open Go.RowKit

def gfn (xs : List Int) (i : Nat) : Int := xs.getD i 0
/-- Has a literal that may stand an edge? -/
def isD (N : Nat → Nd) (x : Int) : Bool := (N (x / 2).toNat).op == 12
def edOf (N : Nat → Nd) (x : Int) : Ed :=
  if x % 2 = 1 then ⟨(N (x / 2).toNat).a0, (N (x / 2).toNat).a1, -(N (x / 2).toNat).num - 1⟩ else ⟨(N (x / 2).toNat).a1, (N (x / 2).toNat).a0, (N (x / 2).toNat).num⟩
def edsL (N : Nat → Nd) : List Int → List Ed
  | [] => []
  | x :: l => if isD N x then edOf N x :: edsL N l else edsL N l
def eF (L : List Ed) (i : Nat) : Ed := L.getD i default
theorem edsL_app (N : Nat → Nd) (l : List Int) (x : Int) : edsL N (l ++ [x]) = if isD N x then edsL N l ++ [edOf N x] else edsL N l := by
  induction l with
  | nil => rfl
  | cons a l ih =>
    rw [List.cons_append]
    unfold edsL
    rw [ih]
    split <;> split <;> simp
theorem edsL_mem {N : Nat → Nd} {e : Ed} : ∀ {l : List Int}, e ∈ edsL N l ↔ ∃ x ∈ l, isD N x = true ∧ e = edOf N x
  | [] => by simp [edsL]
  | a :: l => by
    unfold edsL
    split
    · rename_i h
      rw [List.mem_cons, edsL_mem (l := l)]
      constructor
      · rintro (h1 | ⟨x, h1, h2⟩)
        · exact ⟨a, by simp, h, h1⟩
        · exact ⟨x, by simp [h1], h2⟩
      · rintro ⟨x, h1, h2, h3⟩
        rcases List.mem_cons.1 h1 with rfl | h1
        · exact .inl h3
        · exact .inr ⟨x, h1, h2, h3⟩
    · rename_i h
      rw [edsL_mem (l := l)]
      constructor
      · rintro ⟨x, h1, h2⟩; exact ⟨x, by simp [h1], h2⟩
      · rintro ⟨x, h1, h2, h3⟩
        rcases List.mem_cons.1 h1 with rfl | h1
        · exact absurd h2 h
        · exact ⟨x, h1, h2, h3⟩
theorem edsL_len (N : Nat → Nd) : ∀ l : List Int, (edsL N l).length ≤ l.length
  | [] => Nat.le_refl _
  | a :: l => by
    have := edsL_len N l
    unfold edsL
    split <;> simp <;> omega
theorem eF_mem {L : List Ed} {i : Nat} (hi : i < L.length) : eF L i ∈ L := by
  unfold eF
  rw [List.getD_eq_getElem?_getD, List.getElem?_eq_getElem hi]
  exact List.getElem_mem hi
theorem eF_all {L : List Ed} (p : Ed → Prop) : (∀ i, i < L.length → p (eF L i)) ↔ ∀ e ∈ L, p e := by
  constructor
  · intro h e he
    obtain ⟨i, hi, rfl⟩ := List.getElem_of_mem he
    have := h i hi
    unfold eF at this
    rwa [List.getD_eq_getElem?_getD, List.getElem?_eq_getElem hi] at this
  · exact fun h i hi => h _ (eF_mem hi)
/-- Which numbers hold. -/
def HoldL (L : List Ed) (x : Nat → Int) : Prop := ∀ e ∈ L, x e.dst.toNat ≤ x e.src.toNat + e.wt
theorem feas_hold {L : List Ed} {x : Nat → Int} : Feas (eF L) L.length x ↔ HoldL L x := eF_all (fun e => x e.dst.toNat ≤ x e.src.toNat + e.wt)

/-- A literal that may stand, and that is a difference's. -/
theorem diff_at {n : Nat} {N : Nat → Nd} (hc : CheckP n N) {x : Int} (hx : badLit n N x = false) (hd : isD N x = true) :
    0 ≤ x ∧ (x / 2).toNat < n ∧ 0 ≤ (N (x / 2).toNat).a0 ∧ (N (x / 2).toNat).a0 < n ∧ 0 ≤ (N (x / 2).toNat).a1 ∧ (N (x / 2).toNat).a1 < n ∧ -4611686018427387904 ≤ (N (x / 2).toNat).num ∧ (N (x / 2).toNat).num ≤ 4611686018427387904 := by
  obtain ⟨h0, h1, h2, _⟩ := badLit_lt hx
  have hop : (N (x / 2).toNat).op = 12 := by simpa [isD] using hd
  have hs := hc.all _ h1
  have ha : ar (N (x / 2).toNat).op = 2 := by rw [hop]; decide
  have hl := hs.len (by omega)
  rw [ha] at hl
  obtain ⟨g0, g1⟩ := hs.arg0.1 (by show ((0 : Nat) : Int) < _; omega)
  obtain ⟨g2, g3⟩ := hs.arg1.1 (by show ((1 : Nat) : Int) < _; omega)
  have hn := hs.num (.inr (.inr hop))
  have hn' : -4611686018427387904 ≤ (N (x / 2).toNat).num ∧ (N (x / 2).toNat).num ≤ 4611686018427387904 := by
    unfold mayB at hn
    simpa using hn
  have g0' : 0 ≤ (N (x / 2).toNat).a0 := g0
  have g1' : (N (x / 2).toNat).a0 < ((x / 2).toNat : Int) := g1
  have g2' : 0 ≤ (N (x / 2).toNat).a1 := g2
  have g3' : (N (x / 2).toNat).a1 < ((x / 2).toNat : Int) := g3
  exact ⟨h0, h1, g0', by omega, g2', by omega, hn'.1, hn'.2⟩
theorem kind_diff {n : Nat} {N : Nat → Nd} {x : Int} (hx : badLit n N x = false) : (kindN n N (x / 2) == 6) = isD N x := by
  obtain ⟨h0, h1, h2, _⟩ := badLit_lt hx
  have hs : sortN n N (x / 2) = 0 := by
    have := sortN_in (N := N) h1
    rw [show (((x / 2).toNat : Nat) : Int) = x / 2 by omega] at this
    rw [this]; exact h2
  unfold isD
  by_cases h6 : (N (x / 2).toNat).op = 6
  · rw [kind_eq hs h6, h6]
    have : kdE (sortN n N (N (x / 2).toNat).a0) ≠ 6 := by unfold kdE; split <;> (try split) <;> (try split) <;> omega
    rw [beq_eq_false_iff_ne.2 this]; decide
  · rw [kind_at hs h6]
    by_cases h12 : (N (x / 2).toNat).op = 12
    · rw [h12]; decide
    · have : kdT (N (x / 2).toNat).op ≠ 6 := by
        unfold kdT
        split <;> (try split) <;> (try split) <;> (try split) <;> (try split) <;> (try split) <;> omega
      rw [beq_eq_false_iff_ne.2 this, beq_eq_false_iff_ne.2 h12]
/-- The numbers of the nodes that have one. -/
def hasNum (N : Nat → Nd) (i : Nat) : Bool := (N i).op == 12 || (N i).op == 11 || (N i).op == 10
def numsL (N : Nat → Nd) : Nat → List Int
  | 0 => []
  | k + 1 => if hasNum N k then numsL N k ++ [(N k).num] else numsL N k
theorem numsL_len (N : Nat → Nd) : ∀ k, (numsL N k).length ≤ k
  | 0 => Nat.le_refl _
  | k + 1 => by
    have := numsL_len N k
    unfold numsL
    split
    · rw [List.length_append, List.length_singleton]; omega
    · omega
theorem numsL_mem {N : Nat → Nd} {x : Int} : ∀ {k}, x ∈ numsL N k → ∃ i, i < k ∧ x = (N i).num
  | 0, h => by cases h
  | k + 1, h => by
    unfold numsL at h
    split at h
    · rcases List.mem_append.1 h with h | h
      · obtain ⟨i, h1, h2⟩ := numsL_mem h; exact ⟨i, by omega, h2⟩
      · exact ⟨k, by omega, List.mem_singleton.1 h⟩
    · obtain ⟨i, h1, h2⟩ := numsL_mem h; exact ⟨i, by omega, h2⟩
end Go.Proofs.Ytioceechdombjaa
