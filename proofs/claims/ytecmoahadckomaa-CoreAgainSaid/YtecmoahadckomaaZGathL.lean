/- What goes over a node's arguments, and what is put together of them: plain words. -/
import Derived.Test.YtecmoahadckomaaZTermBTermLTyW
import Derived.Test.YtecmoahadckomaaZStandsRStands
namespace Go.Proofs.Ytecmoahadckomaa
open Go.RowKit

def argsTo (N : Nat → Nd) (i k : Nat) : List Int := (List.range (min k (N i).len.toNat)).map fun k => (N i).arg k
def argsN (N : Nat → Nd) (i : Nat) : List Int := argsTo N i 3

theorem CheckP.argB {n : Nat} {N : Nat → Nd} (h : CheckP n N) {i k : Nat} (hi : i < n) (hk : (k : Int) < (N i).len) : 0 ≤ (N i).arg k ∧ (N i).arg k < i ∧ k < 3 := by
  have hs := h.all i hi
  have := hs.len3
  have hk3 : k = 0 ∨ k = 1 ∨ k = 2 := by omega
  rcases hk3 with rfl | rfl | rfl
  · exact ⟨(hs.arg0.1 hk).1, (hs.arg0.1 hk).2, by omega⟩
  · exact ⟨(hs.arg1.1 hk).1, (hs.arg1.1 hk).2, by omega⟩
  · exact ⟨(hs.arg2.1 hk).1, (hs.arg2.1 hk).2, by omega⟩
theorem argsTo_in (N : Nat → Nd) (i k : Nat) (h : (k : Int) < (N i).len) : argsTo N i (k + 1) = argsTo N i k ++ [(N i).arg k] := by
  unfold argsTo
  rw [Nat.min_eq_left (by omega), Nat.min_eq_left (by omega), List.range_succ, List.map_append]
  rfl
theorem argsTo_out (N : Nat → Nd) (i k : Nat) (h : (N i).len ≤ k) : argsTo N i (k + 1) = argsTo N i k := by
  unfold argsTo
  rw [Nat.min_eq_right (by omega), Nat.min_eq_right (by omega)]
theorem argsTo_len (N : Nat → Nd) (i k : Nat) : (argsTo N i k).length ≤ k := by
  unfold argsTo
  rw [List.length_map, List.length_range]
  exact Nat.min_le_left _ _
theorem argsTo_pre (N : Nat → Nd) (i k : Nat) (hk : k ≤ 3) : argsTo N i k <+: argsN N i := by
  unfold argsN argsTo
  refine ⟨((List.range (min 3 (N i).len.toNat)).map fun k => (N i).arg k).drop (min k (N i).len.toNat), ?_⟩
  have : (List.range (min k (N i).len.toNat)).map (fun k => (N i).arg k) = ((List.range (min 3 (N i).len.toNat)).map fun k => (N i).arg k).take (min k (N i).len.toNat) := by
    rw [← List.map_take, List.take_range]
    congr 2
    omega
  rw [this, List.take_append_drop]
theorem CheckP.argsIn {n : Nat} {N : Nat → Nd} (h : CheckP n N) {i : Nat} (hi : i < n) {x : Int} (hx : x ∈ argsN N i) : 0 ≤ x ∧ x < i := by
  obtain ⟨k, hk, rfl⟩ := List.mem_map.1 hx
  have hk' := List.mem_range.1 hk
  obtain ⟨h1, h2, _⟩ := h.argB hi (k := k) (by omega)
  exact ⟨h1, h2⟩

def cap30 (x : Int) : Int := min x 1073741824
def foldG (op : Int → Int → Int) (g : Nat → Int) (l : List Int) : Int := l.foldl (fun s x => op s (g x.toNat)) 0
theorem foldG_snoc (op : Int → Int → Int) (g : Nat → Int) (l : List Int) (x : Int) : foldG op g (l ++ [x]) = op (foldG op g l) (g x.toNat) := by simp [foldG]
theorem foldl_congr (op : Int → Int → Int) (g g' : Nat → Int) (l : List Int) (h : ∀ x ∈ l, g x.toNat = g' x.toNat) : ∀ s, l.foldl (fun s x => op s (g x.toNat)) s = l.foldl (fun s x => op s (g' x.toNat)) s := by
  induction l with
  | nil => intro s; rfl
  | cons a l ih =>
    intro s
    rw [List.foldl_cons, List.foldl_cons, h a (by simp)]
    exact ih (fun x hx => h x (by simp [hx])) _
theorem foldG_congr {op : Int → Int → Int} {g g' : Nat → Int} {l : List Int} (h : ∀ x ∈ l, g x.toNat = g' x.toNat) : foldG op g l = foldG op g' l := foldl_congr op g g' l h 0

def gthL (op : Int → Int → Int) (N : Nat → Nd) : Nat → List Int
  | 0 => []
  | i + 1 => gthL op N i ++ [cap30 (foldG op (fun a => (gthL op N i).getD a 0) (argsN N i) + 1)]
def gth (op : Int → Int → Int) (N : Nat → Nd) (i : Nat) : Int := cap30 (foldG op (fun a => (gthL op N i).getD a 0) (argsN N i) + 1)
theorem gthL_len (op : Int → Int → Int) (N : Nat → Nd) (i : Nat) : (gthL op N i).length = i := by
  induction i with
  | zero => rfl
  | succ i ih => simp [gthL, ih]
theorem gthL_get (op : Int → Int → Int) (N : Nat → Nd) (i k : Nat) (h : k < i) : (gthL op N i).getD k 0 = gth op N k := by
  induction i with
  | zero => omega
  | succ i ih =>
    unfold gthL
    by_cases e : k = i
    · subst e
      rw [List.getD_eq_getElem?_getD, List.getElem?_append_right (by rw [gthL_len]; exact Nat.le_refl _), gthL_len]
      simp [gth]
    · rw [List.getD_eq_getElem?_getD, List.getElem?_append_left (by rw [gthL_len]; omega), ← List.getD_eq_getElem?_getD]
      exact ih (by omega)
theorem gth_eq {op : Int → Int → Int} {n : Nat} {N : Nat → Nd} (h : CheckP n N) {i : Nat} (hi : i < n) : gth op N i = cap30 (foldG op (gth op N) (argsN N i) + 1) := by
  unfold gth
  rw [foldG_congr (g' := gth op N) fun x hx => ?_]
  · rfl
  · obtain ⟨h0, h1⟩ := h.argsIn hi hx
    exact gthL_get op N i x.toNat (by omega)
/-- The two ways of putting together. -/
structure OpP (op : Int → Int → Int) : Prop where
  lo : ∀ s x, 0 ≤ s → 0 ≤ x → 0 ≤ op s x
  hi : ∀ s x, 0 ≤ s → 0 ≤ x → op s x ≤ s + x
theorem opSum : OpP (fun s x => s + x) := ⟨fun _ _ h h' => by omega, fun _ _ _ _ => by omega⟩
theorem opMax : OpP (fun s x => max s x) := ⟨fun _ _ h h' => by omega, fun _ _ _ _ => by omega⟩
theorem foldG_range {op : Int → Int → Int} (ho : OpP op) {g : Nat → Int} (hg : ∀ a, 0 ≤ g a ∧ g a ≤ 1073741824) (l : List Int) : 0 ≤ foldG op g l ∧ foldG op g l ≤ l.length * 1073741824 := by
  have : ∀ (l : List Int) (s : Int), 0 ≤ s → 0 ≤ l.foldl (fun s x => op s (g x.toNat)) s ∧ l.foldl (fun s x => op s (g x.toNat)) s ≤ s + l.length * 1073741824 := by
    intro l
    induction l with
    | nil => intro s h; simp; omega
    | cons a l ih =>
      intro s h
      rw [List.foldl_cons]
      have h1 := ho.lo s (g a.toNat) h (hg _).1
      have h2 := ho.hi s (g a.toNat) h (hg _).1
      have h3 := (hg a.toNat).2
      obtain ⟨h4, h5⟩ := ih (op s (g a.toNat)) h1
      refine ⟨h4, ?_⟩
      have : ((a :: l).length : Int) = l.length + 1 := by simp
      rw [this, Int.add_mul]
      omega
  obtain ⟨h1, h2⟩ := this l 0 (Int.le_refl _)
  exact ⟨h1, by unfold foldG; omega⟩
theorem gthL_range {op : Int → Int → Int} (ho : OpP op) (N : Nat → Nd) (i : Nat) : ∀ a, 0 ≤ (gthL op N i).getD a 0 ∧ (gthL op N i).getD a 0 ≤ 1073741824 := by
  induction i with
  | zero => intro a; simp [gthL]
  | succ i ih =>
    intro a
    by_cases e : a < i
    · have h1 := ih a
      rw [gthL_get op N i a e] at h1
      rw [gthL_get op N (i + 1) a (by omega)]
      exact h1
    · by_cases e' : a = i
      · subst e'
        rw [gthL_get op N (a + 1) a (by omega)]
        have := foldG_range ho ih (argsN N a)
        unfold gth cap30
        omega
      · have : (gthL op N (i + 1)).getD a 0 = 0 := by
          rw [List.getD_eq_getElem?_getD, List.getElem?_eq_none (by rw [gthL_len]; omega)]; rfl
        rw [this]; omega
theorem gth_range {op : Int → Int → Int} (ho : OpP op) (N : Nat → Nd) (i : Nat) : 0 ≤ gth op N i ∧ gth op N i ≤ 1073741824 := by
  have := gthL_range ho N (i + 1) i
  rwa [gthL_get op N (i + 1) i (by omega)] at this
end Go.Proofs.Ytecmoahadckomaa
