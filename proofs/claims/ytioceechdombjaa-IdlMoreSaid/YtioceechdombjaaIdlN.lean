/- Layer 25, plain law: potentials lie within the sum. -/
import Derived.Test.YtioceechdombjaaIdlE
namespace Go.Proofs.Ytioceechdombjaa
open Go.RowKit

def cnt (P : Nat → Bool) : Nat → Nat
  | 0 => 0
  | k + 1 => cnt P k + (if P k then 1 else 0)
theorem cnt_all {P : Nat → Bool} : ∀ D, (∀ t, t < D → P t = true) → cnt P D = D
  | 0, _ => rfl
  | D + 1, h => by
    unfold cnt
    rw [cnt_all D fun t ht => h t (by omega), if_pos (h D (by omega))]
theorem cnt_or (P Q : Nat → Bool) : ∀ D, cnt (fun t => P t || Q t) D ≤ cnt P D + cnt Q D
  | 0 => Nat.le_refl _
  | D + 1 => by
    have := cnt_or P Q D
    unfold cnt
    cases P D <;> cases Q D <;> simp <;> omega
theorem cnt_mono {P Q : Nat → Bool} (h : ∀ t, P t = true → Q t = true) : ∀ D, cnt P D ≤ cnt Q D
  | 0 => Nat.le_refl _
  | D + 1 => by
    have := cnt_mono h D
    unfold cnt
    cases hp : P D with
    | false => simp; omega
    | true => rw [h D hp]; simp; omega
theorem cnt_int (lo len : Int) (hl : 0 ≤ len) : ∀ D : Nat, (cnt (fun t => decide (lo ≤ (t : Int) ∧ (t : Int) < lo + len)) D : Int) ≤ max 0 (min (D : Int) (lo + len) - lo)
  | 0 => by simp [cnt]; omega
  | D + 1 => by
    have ih := cnt_int lo len hl D
    unfold cnt
    by_cases h : lo ≤ (D : Int) ∧ (D : Int) < lo + len
    · rw [if_pos (decide_eq_true h)]
      omega
    · rw [if_neg (by simpa using h)]
      omega
def inI (lo len : Int) (t : Nat) : Bool := decide (lo ≤ (t : Int) ∧ (t : Int) < lo + len)
def anyI (h : Nat → Bool) (lo len : Nat → Int) (n t : Nat) : Bool := (List.range n).any fun i => h i && inI (lo i) (len i) t
/-- Intervals that cover are as long as what they cover. -/
theorem cover (h : Nat → Bool) (lo len : Nat → Int) (hl : ∀ i, 0 ≤ len i) : ∀ (n D : Nat), (cnt (anyI h lo len n) D : Int) ≤ sumN (fun i => if h i then len i else 0) n
  | 0, D => by
    have : cnt (anyI h lo len 0) D = 0 := by
      induction D with
      | zero => rfl
      | succ D ih => unfold cnt; rw [ih]; rfl
    rw [this]
    exact Int.le_refl _
  | n + 1, D => by
    have ih := cover h lo len hl n D
    show _ ≤ sumN (fun i => if h i then len i else 0) n + (if h n then len n else 0)
    cases hn : h n with
    | false =>
      have e : anyI h lo len (n + 1) = anyI h lo len n := by
        funext t
        unfold anyI
        rw [List.range_succ, List.any_append]
        simp [hn]
      rw [e, if_neg (by simp)]
      omega
    | true =>
      have e : anyI h lo len (n + 1) = fun t => anyI h lo len n t || inI (lo n) (len n) t := by
        funext t
        unfold anyI
        rw [List.range_succ, List.any_append]
        simp [hn]
      rw [e, if_pos rfl]
      have h1 := cnt_or (anyI h lo len n) (inI (lo n) (len n)) D
      have h2 : (cnt (inI (lo n) (len n)) D : Int) ≤ max 0 (min (D : Int) (lo n + len n) - lo n) := cnt_int (lo n) (len n) (hl n) D
      have := hl n
      omega

/-- The sum, node by node. -/
theorem sum_nodes (N : Nat → Nd) : ∀ k, sumN (fun i => absI (gfn (numsL N k) i) + 1) (numsL N k).length = sumN (fun i => if hasNum N i then absI (N i).num + 1 else 0) k
  | 0 => rfl
  | k + 1 => by
    have ih := sum_nodes N k
    show _ = sumN (fun i => if hasNum N i then absI (N i).num + 1 else 0) k + (if hasNum N k then absI (N k).num + 1 else 0)
    unfold numsL
    split
    · rw [List.length_append, List.length_singleton]
      show sumN _ (numsL N k).length + (absI (gfn (numsL N k ++ [(N k).num]) (numsL N k).length) + 1) = _
      have e1 : sumN (fun i => absI (gfn (numsL N k ++ [(N k).num]) i) + 1) (numsL N k).length = sumN (fun i => absI (gfn (numsL N k) i) + 1) (numsL N k).length := by
        refine sumN_congr fun i hi => ?_
        unfold gfn
        rw [List.getD_eq_getElem?_getD, List.getElem?_append_left hi, ← List.getD_eq_getElem?_getD]
      have e2 : gfn (numsL N k ++ [(N k).num]) (numsL N k).length = (N k).num := by
        unfold gfn
        rw [List.getD_eq_getElem?_getD, List.getElem?_append_right (Nat.le_refl _), Nat.sub_self]
        rfl
      rw [e1, e2, ih]
    · rw [ih]; omega
theorem sumI_val {N : Nat → Nd} {n : Nat} {s : Int} (h : sumI N n = some s) : s = sumN (fun i => if hasNum N i then absI (N i).num + 1 else 0) n := by
  rw [← sum_nodes]
  exact sumTo_eq _ h

theorem absI_nn (x : Int) : 0 ≤ absI x := by unfold absI; split <;> omega
/-- A level is crossed by an edge that holds just so. -/
theorem level {L : List Ed} {p : Nat → Int} (hp : HoldL L p) (hp0 : ∀ v, p v ≤ 0) (hmax : ∀ x : Nat → Int, HoldL L x → (∀ v, x v ≤ 0) → ∀ v, x v ≤ p v) (v t : Nat) (ht : (t : Int) < - p v) :
    ∃ e ∈ L, p e.dst.toNat = p e.src.toNat + e.wt ∧ - p e.src.toNat ≤ t ∧ (t : Int) < - p e.dst.toNat := by
  apply Classical.byContradiction
  intro hno
  have h1 := hmax (fun u => if p u ≤ -((t : Int) + 1) then p u + 1 else p u) (fun e he => ?_) (fun u => ?_) v
  · rw [if_pos (by omega)] at h1
    omega
  · have h2 := hp e he
    dsimp only
    by_cases hd : p e.dst.toNat ≤ -((t : Int) + 1)
    · by_cases hs : p e.src.toNat ≤ -((t : Int) + 1)
      · rw [if_pos hd, if_pos hs]; omega
      · rw [if_pos hd, if_neg hs]
        by_cases hti : p e.dst.toNat = p e.src.toNat + e.wt
        · exact absurd ⟨e, he, hti, by omega, by omega⟩ hno
        · omega
    · rw [if_neg hd]
      split <;> omega
  · have := hp0 u
    split <;> omega
theorem pot_in_sum {n : Nat} {N : Nat → Nd} (hc : CheckP n N) {xs : List Int} (hxs : ∀ x ∈ xs, badLit n N x = false) {p : Nat → Int} (hp : HoldL (edsL N xs) p) (hp0 : ∀ v, p v ≤ 0)
    (hmax : ∀ x : Nat → Int, HoldL (edsL N xs) x → (∀ v, x v ≤ 0) → ∀ v, x v ≤ p v) {s : Int} (hs : sumI N n = some s) (v : Nat) : - s ≤ p v := by
  have hcov := cover (hasNum N) (fun i => if p (N i).a0.toNat = p (N i).a1.toNat + (N i).num then - p (N i).a1.toNat else - p (N i).a0.toNat) (fun i => absI (N i).num + 1) (fun i => by have := absI_nn (N i).num; omega) n (- p v).toNat
  rw [cnt_all _ fun t ht => ?_, ← sumI_val hs] at hcov
  · have := hp0 v
    omega
  · obtain ⟨e, he, hti, h1, h2⟩ := level hp hp0 hmax v t (by omega)
    obtain ⟨x, hx, hd, rfl⟩ := edsL_mem.1 he
    obtain ⟨_, hid, _⟩ := diff_at hc (hxs x hx) hd
    unfold anyI
    rw [List.any_eq_true]
    refine ⟨(x / 2).toNat, List.mem_range.2 hid, ?_⟩
    have hop : (N (x / 2).toNat).op = 12 := by simpa [isD] using hd
    have hh : hasNum N (x / 2).toNat = true := by unfold hasNum; rw [hop]; rfl
    rw [hh, Bool.true_and]
    unfold inI
    rw [decide_eq_true_eq]
    unfold edOf at hti h1 h2
    dsimp only
    generalize N (x / 2).toNat = E at *
    have ha : E.num ≤ absI E.num ∧ - E.num ≤ absI E.num := by unfold absI; split <;> omega
    by_cases hodd : x % 2 = 1
    · rw [if_pos hodd] at hti h1 h2
      have hne : ¬ p E.a0.toNat = p E.a1.toNat + E.num := by
        have hti' : p E.a1.toNat = p E.a0.toNat + (-E.num - 1) := hti
        omega
      rw [if_neg hne]
      have hti' : p E.a1.toNat = p E.a0.toNat + (-E.num - 1) := hti
      have h1' : - p E.a0.toNat ≤ t := h1
      have h2' : (t : Int) < - p E.a1.toNat := h2
      omega
    · rw [if_neg hodd] at hti h1 h2
      have hti' : p E.a0.toNat = p E.a1.toNat + E.num := hti
      rw [if_pos hti']
      have h1' : - p E.a1.toNat ≤ t := h1
      have h2' : (t : Int) < - p E.a0.toNat := h2
      omega
end Go.Proofs.Ytioceechdombjaa
