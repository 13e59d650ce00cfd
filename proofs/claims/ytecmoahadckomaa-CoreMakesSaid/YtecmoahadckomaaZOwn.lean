/- Rows of the call's own, of elements of several cells; append of a slice onto one. Over any program. -/
import Derived.WalkKit
import Derived.BigFrame
import Derived.Maps.AppendAt
import Derived.Deep.AppendLies
import Derived.OwnWalk
namespace Go.Proofs.Ytecmoahadckomaa
open Go.RowKit

theorem flat_len {α : Type} (g : Nat → List α) (s : Nat) (hs : ∀ i, (g i).length = s) (k : Nat) : ((List.range k).flatMap g).length = k * s := by
  induction k with
  | zero => simp
  | succ k ih => rw [List.range_succ, List.flatMap_append, List.length_append, ih]; simp [hs, Nat.add_mul]
theorem flat_get {α : Type} (g : Nat → List α) (s : Nat) (hs : ∀ i, (g i).length = s) (k i r : Nat) (hi : i < k) (hr : r < s) : ((List.range k).flatMap g)[i * s + r]? = (g i)[r]? := by
  induction k with
  | zero => omega
  | succ k ih =>
    rw [List.range_succ, List.flatMap_append]
    by_cases e : i = k
    · subst e
      rw [List.getElem?_append_right (by rw [flat_len g s hs]; omega), flat_len g s hs, Nat.add_sub_cancel_left]
      simp
    · have hlt : i * s + r < k * s := by
        have : (i + 1) * s ≤ k * s := Nat.mul_le_mul_right s (by omega)
        rw [Nat.add_mul, Nat.one_mul] at this
        omega
      rw [List.getElem?_append_left (by rw [flat_len g s hs]; exact hlt)]
      exact ih (by omega)
theorem flat_at {α : Type} (g : Nat → List α) (s : Nat) (hs : ∀ i, (g i).length = s) (k j : Nat) (u : α) (h : ((List.range k).flatMap g)[j]? = some u) : ∃ i r, i < k ∧ r < s ∧ j = i * s + r ∧ (g i)[r]? = some u := by
  have hj : j < k * s := by
    have := (List.getElem?_eq_some_iff.1 h).1
    rwa [flat_len g s hs] at this
  have hs0 : 0 < s := by
    rcases Nat.eq_zero_or_pos s with e | e
    · subst e; simp at hj
    · exact e
  have h1 : j / s < k := (Nat.div_lt_iff_lt_mul hs0).2 hj
  have h2 : j % s < s := Nat.mod_lt _ hs0
  have h3 : j / s * s + j % s = j := by rw [Nat.mul_comm]; exact Nat.div_add_mod j s
  refine ⟨j / s, j % s, h1, h2, h3.symm, ?_⟩
  rw [← flat_get g s hs k _ _ h1 h2, h3]; exact h
theorem flat_congr {α : Type} {g g' : Nat → List α} {n : Nat} (h : ∀ i, i < n → g i = g' i) : (List.range n).flatMap g = (List.range n).flatMap g' := by
  induction n with
  | zero => rfl
  | succ n ih => rw [List.range_succ, List.flatMap_append, List.flatMap_append, ih fun i hi => h i (by omega)]; simp [h n (by omega)]
theorem flat_app {α : Type} (g g' : Nat → List α) (n m : Nat) : (List.range n).flatMap g ++ (List.range m).flatMap g' = (List.range (n + m)).flatMap (fun i => if i < n then g i else g' (i - n)) := by
  induction m with
  | zero =>
    rw [Nat.add_zero, List.range_zero, List.flatMap_nil, List.append_nil]
    exact (flat_congr fun i hi => by rw [if_pos hi]).symm
  | succ m ih =>
    rw [List.range_succ, List.flatMap_append, ← List.append_assoc, ih, ← Nat.add_assoc, List.range_succ, List.flatMap_append]
    have : ¬ n + m < n := by omega
    simp [this]

/-- A slice value that reads as n elements of s cells each, the i-th being g i. -/
def SlAt (w : World) (s : Nat) (v : Value) (n : Nat) (g : Nat → List Value) : Prop :=
  ∃ (A : Option Addr) (c : Nat), v = .slice A n c ∧ (∀ i, (g i).length = s) ∧
    (0 < n → ∃ b o, A = some ⟨b, o, none⟩ ∧ b < w.heap.size ∧ ∀ i, i < n → ∀ r u, (g i)[r]? = some u → w.cell? ⟨b, o + (i * s + r), none⟩ = some u)
/-- A row of the call's own. -/
def OwnG (w : World) (base : Nat) (e : TypeId) (s : Nat) (v : Value) (n : Nat) (g : Nat → List Value) : Prop := w.ownsRow base e s v n ((List.range n).flatMap g)

section
variable {P : Program} {w w' : World} {base s n m : Nat} {e : TypeId} {v : Value} {g g' : Nat → List Value}
theorem OwnG.nil (w : World) (base : Nat) (e : TypeId) (s : Nat) (g : Nat → List Value) : OwnG w base e s (.slice none 0 0) 0 g := World.ownsRow_nil w base e s
theorem OwnG.lit0 (w : World) (base : Nat) (e : TypeId) (s : Nat) (g : Nat → List Value) (hb : base ≤ w.heap.size) : OwnG (w.alloc (.cells #[] e)) base e s (.slice (some ⟨w.heap.size, 0, none⟩) 0 0) 0 g := by
  have := World.ownsRow_lit (e := e) (size := s) w #[] 0 hb (by unfold maxLen; omega) (by simp)
  simpa [OwnG] using this
theorem OwnG.alloc (h : OwnG w base e s v n g) (o : Obj) : OwnG (w.alloc o) base e s v n g := World.ownsRow.alloc h o
theorem OwnG.below {B : Nat} (h : OwnG w base e s v n g) (hb : Below B w w') (hB : w.heap.size ≤ B) : OwnG w' base e s v n g := by
  refine World.ownsRow.kept (row := none) h ⟨hb.os, hb.tape, hb.output, hb.size, fun k hk _ => hb.block k (by omega)⟩ ?_
  cases hv : v.ownBlock with
  | none => exact .inl rfl
  | some g => exact .inr (by simp)
theorem OwnG.congr (h : OwnG w base e s v n g) (he : ∀ i, i < n → g i = g' i) : OwnG w base e s v n g' := by
  unfold OwnG at h ⊢
  rw [← flat_congr he]; exact h
theorem OwnG.lt (h : OwnG w base e s v n g) : ∀ k, v.ownBlock = some k → base ≤ k ∧ k < w.heap.size := World.ownsRow.lt h
theorem OwnG.at_ (h : OwnG w base e s v n g) (hs : ∀ i, (g i).length = s) : SlAt w s v n g := by
  have hform : ∃ A c, v = .slice A n c := by
    rcases h.2 with ⟨rfl, h0⟩ | ⟨g, cap, cur, rfl, _⟩
    · exact ⟨none, 0, by rw [h0]⟩
    · exact ⟨_, _, rfl⟩
  obtain ⟨A, c, rfl⟩ := hform
  refine ⟨A, c, rfl, hs, fun h0 => ?_⟩
  obtain ⟨b, cap, hv, _, hlt⟩ := World.ownsRow.form h h0
  have hA : A = some ⟨b, 0, none⟩ := by injection hv
  subst hA
  refine ⟨b, 0, rfl, hlt, fun i hi r u hu => ?_⟩
  have hr : r < s := by
    have := (List.getElem?_eq_some_iff.1 hu).1
    rwa [hs] at this
  have := World.ownsRow.cells h (g := b) rfl (i * s + r) u (by rw [flat_get g s hs n i r hi hr]; exact hu)
  rw [← this, Nat.zero_add]
  unfold Addr.add
  split
  · next e => rw [e]
  · simp

theorem run_append_src (t ty : TypeId) (i : TypeInfo) (z : Value) (bytes : Nat) (ht : P.underlying t = some (.slice e)) (hi : P.info? e = some i) (hz : i.zero = some z)
    (hsize : i.size = s) (hby : i.bytes = bytes) (hzs : z.cells.size = s) (hsz : 0 < s) (hown : OwnG w base e s v n g)
    (x : Value) (hx : SlAt w s x m g') (h1 : ∀ i, i < m → ∀ u ∈ g' i, u.oneCell' = true)
    (h63 : n + m ≤ maxLen) (hbytes : (n + m) * bytes ≤ 140737488355328) (hbase : base ≤ w.heap.size) :
    ∃ v' w', (Builtin.append_ #[t, t] ty #[v, x]).run P w = .ok v' w' ∧ OwnG w' base e s v' (n + m) (fun i => if i < n then g i else g' (i - n)) ∧ w.grownBy w' v.ownBlock := by
  obtain ⟨A, c, rfl, hs, hc⟩ := hx
  have hfl : ((List.range m).flatMap g').length = m * s := flat_len g' s hs m
  have h1' : ∀ u ∈ (List.range m).flatMap g', u.oneCell' = true := by
    intro u hu
    obtain ⟨i, hi, hu⟩ := List.mem_flatMap.1 hu
    exact h1 i (List.mem_range.1 hi) u hu
  rcases A with _ | ad
  · have hm : m = 0 := by
      rcases Nat.eq_zero_or_pos m with h0 | h0
      · exact h0
      · obtain ⟨b, o, h, _⟩ := hc h0; cases h
    subst hm
    refine ⟨v, w, ?_, (by rw [Nat.add_zero]; exact hown.congr fun i hi => by rw [if_pos hi]), World.grownBy.refl w _⟩
    rcases hown.2 with ⟨rfl, rfl⟩ | ⟨b, cap, cur, rfl, _, _, hnc, _⟩
    · simp [Builtin.append_, run_underlying ht, sizeOf, typeInfo, hi, Builtin.lenOf, Builtin.firstCells]
    · simp [Builtin.append_, run_underlying ht, sizeOf, typeInfo, hi, Builtin.lenOf, Builtin.firstCells, hnc, storeCells]
  · have hnews : ∀ j u, ((List.range m).flatMap g')[j]? = some u → w.cell? (ad.add j) = some u := by
      intro j u hu
      obtain ⟨i, r, him, hr, rfl, hu'⟩ := flat_at g' s hs m j u hu
      obtain ⟨b, o, h, _, hcell⟩ := hc (by omega)
      injection h with h
      subst h
      rw [← hcell i him r u hu']
      unfold Addr.add
      split
      · next e => rw [e, Nat.add_zero]
      · rfl
    obtain ⟨v', w', hrun, h2, h3, _⟩ := run_append_own (P := P) (w := w) base t ty e i z s bytes ht hi hz hsize hby hzs hsz v n _ hown ad m c _ hfl hnews h1' h63 hbytes hbase
    exact ⟨v', w', hrun, (by unfold OwnG; rw [← flat_app]; exact h2), h3⟩

theorem wp_append_src {o : Oper} {a : Act} {K : Act → World → Prop} {Q : Exit → Act → World → Prop} (p q : Operand) (t : TypeId)
    (ho : o.op = .call { callee := .builtin .append, args := #[p, q], argTypes := #[t, t] })
    (i : TypeInfo) (z : Value) (bytes : Nat) (ht : P.underlying t = some (.slice e)) (hi : P.info? e = some i) (hz : i.zero = some z)
    (hsize : i.size = s) (hby : i.bytes = bytes) (hzs : z.cells.size = s) (hsz : 0 < s) (hp : a.eval p = v) (hown : OwnG w base e s v n g)
    (x : Value) (hq : a.eval q = x) (hx : SlAt w s x m g') (h1 : ∀ i, i < m → ∀ u ∈ g' i, u.oneCell' = true)
    (h63 : n + m ≤ maxLen) (hbytes : (n + m) * bytes ≤ 140737488355328) (hbase : base ≤ w.heap.size)
    (h : ∀ v' w', OwnG w' base e s v' (n + m) (fun i => if i < n then g i else g' (i - n)) → w.grownBy w' v.ownBlock → K (a.put o.dst v') w') : o.wp P a w K Q := by
  obtain ⟨v', w', hrun, h2, h3⟩ := run_append_src (P := P) t o.type i z bytes ht hi hz hsize hby hzs hsz hown x hx h1 h63 hbytes hbase
  unfold Oper.wp execOp
  simp only [ho, resolve, invoke, builtin, Sem.run_bind, Sem.run_pure, Result.andThen_ok, List.map_toArray, List.map_cons, List.map_nil, hp, hq, hrun]
  exact h v' w' h2 h3
theorem wpList_append_src {ops : Array Oper} {rest : List Oper} {o : Oper} {a : Act} {Q : Exit → Act → World → Prop} (hw : Region.wanted o (yielded ops a.tmps) = true) (p q : Operand) (t : TypeId)
    (ho : o.op = .call { callee := .builtin .append, args := #[p, q], argTypes := #[t, t] })
    (i : TypeInfo) (z : Value) (bytes : Nat) (ht : P.underlying t = some (.slice e)) (hi : P.info? e = some i) (hz : i.zero = some z)
    (hsize : i.size = s) (hby : i.bytes = bytes) (hzs : z.cells.size = s) (hsz : 0 < s) (hp : a.eval p = v) (hown : OwnG w base e s v n g)
    (x : Value) (hq : a.eval q = x) (hx : SlAt w s x m g') (h1 : ∀ i, i < m → ∀ u ∈ g' i, u.oneCell' = true)
    (h63 : n + m ≤ maxLen) (hbytes : (n + m) * bytes ≤ 140737488355328) (hbase : base ≤ w.heap.size)
    (h : ∀ v' w', OwnG w' base e s v' (n + m) (fun i => if i < n then g i else g' (i - n)) → Below base w w' → w.grownBy w' v.ownBlock → wpList P ops Q rest (a.put o.dst v') w') : wpList P ops Q (o :: rest) a w :=
  BigFrame.wpList_want hw fun _ hK => wp_append_src p q t ho i z bytes ht hi hz hsize hby hzs hsz hp hown x hq hx h1 h63 hbytes hbase fun v' w' h2 h3 =>
    hK _ _ (h v' w' h2 ((Below.refl base w).grown h3 hbase (fun k hk => (hown.lt k hk).1)) h3)
end
end Go.Proofs.Ytecmoahadckomaa
