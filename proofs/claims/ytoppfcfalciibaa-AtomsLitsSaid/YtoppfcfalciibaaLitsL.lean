/- AtomsLits: the plain laws. -/
import Derived.Test.YtoppfcfalciibaaBools
namespace Go.Proofs.Ytoppfcfalciibaa
open Go.RowKit Go.Maps
set_option maxRecDepth 100000

def seenB (xs : List Int) (j i : Nat) : Int := if (i : Int) ∈ xs.take j then 1 else 0
theorem seenB_next {xs : List Int} {j k : Nat} (hj : j < xs.length) (hk : xs[j] = (k : Int)) (i : Nat) : seenB xs (j + 1) i = if i = k then 1 else seenB xs j i := by
  unfold seenB
  rw [List.take_succ_eq_append_getElem hj]
  simp only [List.mem_append, List.mem_singleton, hk]
  by_cases h : i = k
  · subst h; simp
  · rw [if_neg h]
    have : ¬ ((i : Int) = (k : Int)) := by omega
    simp [this]
theorem seenB_all {N : Nat → Nd} {n i : Nat} (hi : i < n) (h : boolP N i = true) : seenB (boolsTo N n) (boolsTo N n).length i = 1 := by
  unfold seenB
  rw [List.take_length, if_pos ((bools_mem N i n).2 ⟨i, rfl, hi, h⟩)]
theorem lit_bool {n i : Nat} {N : Nat → Nd} {a e : Int} (h : LitP n N i a e) (hc : CheckP n N) (hi : i < n) (hb : boolP N i = true) : a = 2 * (i : Int) ∧ e = 0 := by
  unfold boolP at hb
  simp only [Bool.and_eq_true, beq_iff_eq, bne_iff_ne] at hb
  obtain ⟨h1, h2⟩ := h.ok hc hi (.base hb.2) hb.1 hb.1
  exact ⟨by rw [h1]; show 2 * (i : Int) + 0 = _; omega, h2⟩
theorem may_bool {n i : Nat} {N : Nat → Nd} (hc : CheckP n N) (hi : i < n) (hb : boolP N i = true) : mayT n N 1 (fun _ => 2 * (i : Int)) = true := by
  unfold boolP at hb
  simp only [Bool.and_eq_true, beq_iff_eq, bne_iff_ne] at hb
  rw [mayT_chk hc]
  have hd : (2 * (i : Int)) / 2 = (i : Int) := by omega
  have : badLit n N (2 * (i : Int)) = false := by
    unfold badLit
    rw [hd, sortN_in hi, hb.1, Int.toNat_natCast]
    have h0 : decide (2 * (i : Int) < 0) = false := by simp; omega
    have h1 : ((N i).op == 1) = false := by simpa using hb.2
    rw [h0, h1]
    rfl
  show (!(anyBadL n N (fun _ => 2 * (i : Int)) 0 || badLit n N (2 * (i : Int)))) = true
  rw [this]
  rfl
theorem L_get {f : Nat → Int} {m s : Nat} (h : s < (L f m).length) : (L f m)[s] = f s := by simp [L]
/-- How far the given list has been run through. -/
def SubP (p : Int → Bool) (ls es : List Int) (s j : Nat) : Prop := (ls.drop s).filter p = es.drop j
theorem SubP.skip {p : Int → Bool} {ls es : List Int} {s j : Nat} (h : SubP p ls es s j) (hs : s < ls.length) (hj : j < es.length) (hne : ls[s] ≠ es[j]) : SubP p ls es (s + 1) j := by
  unfold SubP at *
  rw [List.drop_eq_getElem_cons hs, List.filter_cons, List.drop_eq_getElem_cons hj] at h
  split at h
  · injection h with h1 _
    exact absurd h1 hne
  · rw [h, ← List.drop_eq_getElem_cons hj]
theorem SubP.hit {p : Int → Bool} {ls es : List Int} {s j : Nat} (h : SubP p ls es s j) (hs : s < ls.length) (hj : j < es.length) (he : ls[s] = es[j]) (hp : p es[j] = true) : SubP p ls es (s + 1) (j + 1) := by
  unfold SubP at *
  rw [List.drop_eq_getElem_cons hs, List.filter_cons, List.drop_eq_getElem_cons hj, he, if_pos hp] at h
  injection h
theorem SubP.some {p : Int → Bool} {ls es : List Int} {s j : Nat} (h : SubP p ls es s j) (hj : j < es.length) : s < ls.length := by
  apply Classical.byContradiction
  intro hs
  unfold SubP at h
  rw [List.drop_eq_nil_of_le (by omega), List.filter_nil, List.drop_eq_getElem_cons hj] at h
  cases h
theorem euf_sub0 (n m : Nat) (N : Nat → Nd) (f : Nat → Int) : ∃ p : Int → Bool, (∀ x ∈ eufL n N m f, p x = true) ∧ SubP p (L f m) (eufL n N m f) 0 0 := by
  unfold eufL
  split
  · refine ⟨eufB n N, fun x hx => ?_, ?_⟩
    · rw [filtL_list] at hx
      exact (List.mem_filter.1 hx).2
    · unfold SubP
      rw [filtL_list]; rfl
  · refine ⟨fun _ => false, fun x hx => (by cases hx), ?_⟩
    unfold SubP
    simp
end Go.Proofs.Ytoppfcfalciibaa
