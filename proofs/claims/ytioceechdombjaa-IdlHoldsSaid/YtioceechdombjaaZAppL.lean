/- append of a list of numbers onto a row of the call's own. -/
import Derived.Test.YtioceechdombjaaZOwn
import Derived.Test.YtioceechdombjaaZIntsToNumW
import Derived.Below
import Derived.Deep.Onto
namespace Go.Proofs.Ytioceechdombjaa
open Go.RowKit
set_option maxRecDepth 100000

theorem OwnL.low {w : World} {b b' : Nat} {v : Value} {xs : List Int} (h : OwnL w b v xs) (hb : b' ≤ b) : OwnL w b' v xs := World.ownsRow.mono h hb
theorem flat_one {α β : Type} (h : α → β) (l : List α) : l.flatMap (fun i => [h i]) = l.map h := by
  induction l with
  | nil => rfl
  | cons a l ih => simp [List.flatMap_cons, ih]
theorem range_getD (xs : List Int) : (List.range xs.length).map (fun i => xs.getD i 0) = xs := by
  apply List.ext_getElem
  · simp
  · intro i h1 h2
    rw [List.getElem_map, List.getElem_range, getD_lt _ _ h2]
theorem OwnL.toG {w : World} {b : Nat} {v : Value} {xs : List Int} (h : OwnL w b v xs) : OwnG w b 3 1 v xs.length (fun i => [.int .i64 (xs.getD i 0)]) := by
  unfold OwnG
  rw [flat_one]
  have e : (List.range xs.length).map (fun i => Value.int .i64 (xs.getD i 0)) = xs.map fun x => Value.int .i64 x := by
    exact ((List.map_map (f := fun i => xs.getD i 0) (g := fun x => Value.int .i64 x)).symm).trans (by rw [range_getD])
  rw [e]
  exact h
theorem OwnL.ofG {w : World} {b n : Nat} {v : Value} {f : Nat → Int} (h : OwnG w b 3 1 v n (fun i => [.int .i64 (f i)])) : OwnL w b v ((List.range n).map f) := by
  unfold OwnG at h
  rw [flat_one] at h
  unfold OwnL
  rw [List.length_map, List.length_range, List.map_map]
  exact h
theorem IntsAt.sl {w : World} {v : Value} {n : Nat} {f : Nat → Int} (h : IntsAt w v n f) : SlAt w 1 v n (fun i => [.int .i64 (f i)]) := by
  obtain ⟨A, c, rfl, _, _, hc⟩ := h
  refine ⟨A, c, rfl, fun _ => rfl, fun h0 => ?_⟩
  obtain ⟨b, o, rfl, hb, hc⟩ := hc h0
  refine ⟨b, o, rfl, hb, fun i hi r u hu => ?_⟩
  cases r with
  | zero =>
    simp at hu
    subst hu
    have := hc i hi
    simpa using this
  | succ r => simp at hu
theorem wp_appL {o : Oper} {a : Act} {K : Act → World → Prop} {Q : Exit → Act → World → Prop} {w : World} (p q : Operand)
    (ho : o.op = .call { callee := .builtin .append, args := #[p, q], argTypes := #[27, 27] }) (base : Nat) (v : Value) (xs : List Int) (hp : a.eval p = v) (hown : OwnL w base v xs)
    (x : Value) (m : Nat) (f : Nat → Int) (hq : a.eval q = x) (hx : IntsAt w x m f) (hn : xs.length + m ≤ 1000000) (hb : base ≤ w.heap.size)
    (h : ∀ v' w', OwnL w' base v' (xs ++ (List.range m).map f) → Below base w w' → w.grownBy w' v.ownBlock → K (a.put o.dst v') w') : o.wp Try.prog a w K Q := by
  obtain ⟨i0, hi, hz0, hz1, hz2⟩ := info_parts info_int
  refine wp_append_src p q 27 ho i0 _ 8 Try.underlying27 hi hz0 hz1 hz2 rfl (by decide) hp hown.toG x hq hx.sl ?_ (by unfold maxLen; omega) (by omega) hb ?_
  · intro i _ u hu
    simp at hu
    subst hu
    rfl
  · intro v' w' h1 h2
    refine h v' w' ?_ ((Below.refl base w).grown h2 hb (fun k hk => (World.ownsRow.lt hown k hk).1)) h2
    have h3 : OwnG w' base 3 1 v' (xs.length + m) (fun i => [.int .i64 (if i < xs.length then xs.getD i 0 else f (i - xs.length))]) := h1.congr fun i _ => by split <;> rfl
    have h4 := OwnL.ofG h3
    have e : (List.range (xs.length + m)).map (fun i => if i < xs.length then xs.getD i 0 else f (i - xs.length)) = xs ++ (List.range m).map f := by
      rw [List.range_add, List.map_append, List.map_map]
      congr 1
      · refine Eq.trans (List.map_congr_left fun i hi => ?_) (range_getD xs)
        rw [if_pos (List.mem_range.1 hi)]
      · refine List.map_congr_left fun i _ => ?_
        show (if xs.length + i < xs.length then _ else _) = _
        rw [if_neg (by omega), Nat.add_sub_cancel_left]
    rwa [e] at h4
end Go.Proofs.Ytioceechdombjaa
