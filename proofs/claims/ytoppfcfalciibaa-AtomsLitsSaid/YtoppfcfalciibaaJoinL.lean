/- Joined literals: the plain laws. -/
import Derived.Test.YtoppfcfalciibaaWakes13
import Derived.Test.YtoppfcfalciibaaIntsQ
import Derived.Test.YtoppfcfalciibaaTermD
import Derived.Deep.DeepCutAuto
namespace Go.Proofs.Ytoppfcfalciibaa
open Go.RowKit Go.Maps
set_option maxRecDepth 100000

theorem anyBadL_list (n : Nat) (N : Nat → Nd) (f : Nat → Int) : ∀ k, anyBadL n N f k = ((List.range k).map f).any (badLit n N)
  | 0 => rfl
  | k + 1 => by rw [anyBadL, anyBadL_list n N f k, List.range_succ, List.map_append, List.any_append]; simp
theorem filtL_list (p : Int → Bool) (f : Nat → Int) : ∀ k, filtL p f k = ((List.range k).map f).filter p
  | 0 => rfl
  | k + 1 => by
    rw [filtL, filtL_list p f k, List.range_succ, List.map_append, List.filter_append]
    simp only [List.map_cons, List.map_nil, List.filter_cons, List.filter_nil]
    split <;> simp
def gf (xs : List Int) (i : Nat) : Int := xs.getD i 0
theorem gf_map (xs : List Int) : (List.range xs.length).map (gf xs) = xs := range_getD xs
def L (f : Nat → Int) (m : Nat) : List Int := (List.range m).map f
theorem may_join {n m1 m2 : Nat} {N : Nat → Nd} {f g : Nat → Int} (h1 : mayT n N m1 f = true) (h2 : mayT n N m2 g = true) : mayT n N (L f m1 ++ L g m2).length (gf (L f m1 ++ L g m2)) = true := by
  unfold mayT at *
  rw [anyBadL_list] at h1 h2
  rw [anyBadL_list, gf_map, List.any_append]
  simp only [Bool.and_eq_true, Bool.not_eq_true', Bool.or_eq_false_iff] at *
  exact ⟨h1.1, h1.2, h2.2⟩
theorem euf_join {n m1 m2 : Nat} {N : Nat → Nd} {f g : Nat → Int} (h1 : mayT n N m1 f = true) (h2 : mayT n N m2 g = true) : eufL n N (L f m1 ++ L g m2).length (gf (L f m1 ++ L g m2)) = eufL n N m1 f ++ eufL n N m2 g := by
  unfold eufL
  rw [if_pos h1, if_pos h2, if_pos (may_join h1 h2), filtL_list, filtL_list, filtL_list, gf_map, List.filter_append]
  rfl
theorem idl_join {n m1 m2 : Nat} {N : Nat → Nd} {f g : Nat → Int} (h1 : mayT n N m1 f = true) (h2 : mayT n N m2 g = true) : idlL n N (L f m1 ++ L g m2).length (gf (L f m1 ++ L g m2)) = idlL n N m1 f ++ idlL n N m2 g := by
  unfold idlL
  rw [if_pos h1, if_pos h2, if_pos (may_join h1 h2), filtL_list, filtL_list, filtL_list, gf_map, List.filter_append]
  rfl
theorem L_len (f : Nat → Int) (m : Nat) : (L f m).length = m := by unfold L; simp
theorem L_R {f : Nat → Int} {m : Nat} (h : ∀ i, i < m → R64 (f i)) : ∀ x ∈ L f m, R64 x := by
  intro x hx
  obtain ⟨i, hi, rfl⟩ := List.mem_map.1 hx
  exact h i (List.mem_range.1 hi)
theorem eufL_sub (n m : Nat) (N : Nat → Nd) (f : Nat → Int) : (∀ x ∈ eufL n N m f, x ∈ L f m) ∧ (eufL n N m f).length ≤ m := by
  unfold eufL
  split
  · rw [filtL_list]
    exact ⟨fun x hx => (List.mem_filter.1 hx).1, Nat.le_trans (List.length_filter_le _ _) (Nat.le_of_eq (L_len f m))⟩
  · exact ⟨fun x hx => (by cases hx), Nat.zero_le _⟩
theorem idlL_sub (n m : Nat) (N : Nat → Nd) (f : Nat → Int) : (∀ x ∈ idlL n N m f, x ∈ L f m) ∧ (idlL n N m f).length ≤ m := by
  unfold idlL
  split
  · rw [filtL_list]
    exact ⟨fun x hx => (List.mem_filter.1 hx).1, Nat.le_trans (List.length_filter_le _ _) (Nat.le_of_eq (L_len f m))⟩
  · exact ⟨fun x hx => (by cases hx), Nat.zero_le _⟩

theorem OwnL.gf {w : World} {b : Nat} {v : Value} {xs : List Int} (h : OwnL w b v xs) (hn : xs.length ≤ 1000000) (hr : ∀ x ∈ xs, R64 x) : IntsAt w v xs.length (gf xs) := h.ints (by omega) hr
theorem OwnL.lit0 (w : World) (b : Nat) (hb : b ≤ w.heap.size) : OwnL (w.alloc (.cells #[] 3)) b (.slice (some ⟨w.heap.size, 0, none⟩) 0 0) [] := OwnG.lit0 w b 3 1 (fun _ => []) hb
/-- append of a list of numbers onto a row of the call's own. -/
theorem wp_appX {o : Oper} {a : Act} {K : Act → World → Prop} {Q : Exit → Act → World → Prop} {w : World} (p q : Operand)
    (ho : o.op = .call { callee := .builtin .append, args := #[p, q], argTypes := #[41, 41] }) (base : Nat) (v : Value) (xs : List Int) (hp : a.eval p = v) (hown : OwnL w base v xs)
    (x : Value) (ys : List Int) (hq : a.eval q = x) (hx : IntsAt w x ys.length (gf ys)) (hn : xs.length + ys.length ≤ 1000000) (hb : base ≤ w.heap.size)
    (h : ∀ v' w', OwnL w' base v' (xs ++ ys) → Below base w w' → K (a.put o.dst v') w') : o.wp Try.prog a w K Q := by
  refine wp_appL p q ho base v xs hp hown x ys.length (gf ys) hq hx hn hb fun v' w' h1 h2 _ => h v' w' ?_ h2
  rwa [gf_map] at h1
theorem step_appX {ops : Array Oper} {o : Oper} {a : Act} {w : World} {K : Act → World → Prop} {Q : Exit → Act → World → Prop} {E : Prop} (hg : o.guard = none) (p q : Operand)
    (ho : o.op = .call { callee := .builtin .append, args := #[p, q], argTypes := #[41, 41] }) (base : Nat) (v : Value) (xs : List Int) (hp : a.eval p = v) (hown : OwnL w base v xs)
    (x : Value) (ys : List Int) (hq : a.eval q = x) (hx : IntsAt w x ys.length (gf ys)) (hn : xs.length + ys.length ≤ 1000000) (hb : base ≤ w.heap.size)
    (h : ∀ v' w', OwnL w' base v' (xs ++ ys) → Below base w w' → K (a.put o.dst v') w') :
    if Region.wanted o (yielded ops a.tmps) = true then Oper.wp Try.prog o a w K Q else E := by
  rw [if_pos (by simp [Region.wanted, hg])]
  exact wp_appX p q ho base v xs hp hown x ys hq hx hn hb h
theorem wpList_appX {w : World} {ops : Array Oper} {rest : List Oper} {o : Oper} {a : Act} {Q : Exit → Act → World → Prop} (hw : Region.wanted o (yielded ops a.tmps) = true) (p q : Operand)
    (ho : o.op = .call { callee := .builtin .append, args := #[p, q], argTypes := #[41, 41] }) (base : Nat) (v : Value) (xs : List Int) (hp : a.eval p = v) (hown : OwnL w base v xs)
    (x : Value) (ys : List Int) (hq : a.eval q = x) (hx : IntsAt w x ys.length (gf ys)) (hn : xs.length + ys.length ≤ 1000000) (hb : base ≤ w.heap.size)
    (h : ∀ v' w', OwnL w' base v' (xs ++ ys) → Below base w w' → wpList Try.prog ops Q rest (a.put o.dst v') w') : wpList Try.prog ops Q (o :: rest) a w :=
  BigFrame.wpList_want hw fun _ hK => wp_appX p q ho base v xs hp hown x ys hq hx hn hb fun v' w' h1 h2 => hK _ _ (h v' w' h1 h2)
theorem IntsAt.toL {w : World} {v : Value} {m : Nat} {f : Nat → Int} (h : IntsAt w v m f) : IntsAt w v (L f m).length (Go.Proofs.Ytoppfcfalciibaa.gf (L f m)) := by
  rw [L_len]
  refine h.congr fun i hi => ?_
  show f i = (L f m).getD i 0
  rw [getD_lt _ _ (by rw [L_len]; exact hi)]
  unfold L
  simp
end Go.Proofs.Ytoppfcfalciibaa
