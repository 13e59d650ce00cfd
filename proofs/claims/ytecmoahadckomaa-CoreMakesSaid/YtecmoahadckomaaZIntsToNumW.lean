/- Words for memory: a slice value that reads as numbers (no edges: for seats without api.Edge). -/
import Derived.Test.YtecmoahadckomaaProg
import Derived.WalkKit
import Derived.Deep.QuietTactic
import Derived.Deep.OwnRows
import Derived.Deep.Draws
import Derived.BigQuiet
import Derived.Handy
import Derived.Lib.Hide
import Derived.Maps.AppendAt
import Derived.Deep.AppendLies
import Derived.OwnWalk
namespace Go.Proofs.Ytecmoahadckomaa
open Go.RowKit

def R64 (x : Int) : Prop := -9223372036854775808 ≤ x ∧ x ≤ 9223372036854775807
def big : Nat := 9223372036854775807

/-- The slice value v reads, in w, as the n numbers f 0 .. -/
def IntsAt (w : World) (v : Value) (n : Nat) (f : Nat → Int) : Prop :=
  ∃ (A : Option Addr) (c : Nat), v = .slice A n c ∧ n ≤ 9223372036854775807 ∧ (∀ i, i < n → R64 (f i)) ∧
    (0 < n → ∃ b o, A = some ⟨b, o, none⟩ ∧ b < w.heap.size ∧ ∀ i, i < n → w.cell? ⟨b, o + i, none⟩ = some (.int .i64 (f i)))


section
variable {w w' : World} {v : Value} {n : Nat} {f g : Nat → Int}
theorem IntsAt.keep (h : IntsAt w v n f) (hs : w.heap.size ≤ w'.heap.size) (hk : ∀ p : Addr, p.block < w.heap.size → w'.cell? p = w.cell? p) : IntsAt w' v n f := by
  obtain ⟨A, c, rfl, hn, hr, hc⟩ := h
  refine ⟨A, c, rfl, hn, hr, fun h0 => ?_⟩
  obtain ⟨b, o, rfl, hb, hc⟩ := hc h0
  exact ⟨b, o, rfl, by omega, fun i hi => (hk _ hb).trans (hc i hi)⟩
theorem IntsAt.below (h : IntsAt w v n f) (hb : Below w.heap.size w w') : IntsAt w' v n f := h.keep hb.size fun _ hp => hb.cell hp
theorem IntsAt.congr (h : IntsAt w v n f) (e : ∀ i, i < n → f i = g i) : IntsAt w v n g := by
  obtain ⟨A, c, rfl, hn, hr, hc⟩ := h
  refine ⟨A, c, rfl, hn, fun i hi => by rw [← e i hi]; exact hr i hi, fun h0 => ?_⟩
  obtain ⟨b, o, rfl, hb, hc⟩ := hc h0
  exact ⟨b, o, rfl, hb, fun i hi => by rw [← e i hi]; exact hc i hi⟩
theorem IntsAt.of_row {b t m : Nat} {F : Nat → Value} (h : w.rowIs b t m F) (hn : n ≤ m) (hm : n ≤ 9223372036854775807) (hr : ∀ i, i < n → R64 (f i)) (hF : ∀ i, i < n → F i = .int .i64 (f i)) (c : Nat) :
    IntsAt w (.slice (some ⟨b, 0, none⟩) n c) n f := by
  refine ⟨_, _, rfl, hm, hr, fun _ => ⟨b, 0, rfl, h.lt, fun i hi => ?_⟩⟩
  rw [Nat.zero_add, h.cell (by omega), hF i hi]
end

theorem info_int : (Try.prog.info? 3).map (fun i => (i.zero, i.size, i.bytes)) = some (some (.int .i64 0), 1, 8) := by kernel_rfl

/-- A row of ints of the call's own. -/
def OwnL (w : World) (base : Nat) (v : Value) (xs : List Int) : Prop := w.ownsRow base 3 1 v xs.length (xs.map fun x => Value.int .i64 x)
theorem OwnL.nil (w : World) (base : Nat) : OwnL w base (.slice none 0 0) [] := World.ownsRow_nil w base _ _
theorem OwnL.alloc {w : World} {base : Nat} {v : Value} {xs : List Int} (h : OwnL w base v xs) (o : Obj) : OwnL (w.alloc o) base v xs := World.ownsRow.alloc h o
theorem OwnL.below {w w' : World} {base B : Nat} {v : Value} {xs : List Int} (h : OwnL w base v xs) (hb : Below B w w') (hB : w.heap.size ≤ B) : OwnL w' base v xs := by
  refine World.ownsRow.kept (row := none) h ⟨hb.os, hb.tape, hb.output, hb.size, fun k hk _ => hb.block k (by omega)⟩ ?_
  cases hv : v.ownBlock with
  | none => exact .inl rfl
  | some g => exact .inr (by simp)
theorem OwnL.setCell {w : World} {base : Nat} {v : Value} {xs : List Int} (h : OwnL w base v xs) {a : Addr} (ha : a.block < base) (u : Value) : OwnL (w.setCell a u) base v xs := ownsRow_setCell_below h ha u
theorem getD_lt (xs : List Int) (i : Nat) (hi : i < xs.length) : xs.getD i 0 = xs[i] := by simp [List.getD, hi]
theorem OwnL.ints {w : World} {base : Nat} {v : Value} {xs : List Int} (h : OwnL w base v xs) (hn : xs.length ≤ 9223372036854775807) (hr : ∀ x ∈ xs, R64 x) : IntsAt w v xs.length (fun i => xs.getD i 0) := by
  have hform : ∃ A c, v = .slice A xs.length c := by
    rcases h.2 with ⟨rfl, h0⟩ | ⟨g, cap, cur, rfl, _⟩
    · exact ⟨none, 0, by rw [h0]⟩
    · exact ⟨_, _, rfl⟩
  obtain ⟨A, c, rfl⟩ := hform
  refine ⟨A, c, rfl, hn, fun i hi => ?_, fun h0 => ?_⟩
  · show R64 (xs.getD i 0)
    rw [getD_lt _ _ hi]; exact hr _ (List.getElem_mem hi)
  · obtain ⟨g, cap, hv, _, hlt⟩ := World.ownsRow.form h h0
    have hA : A = some ⟨g, 0, none⟩ := by injection hv
    subst hA
    refine ⟨g, 0, rfl, hlt, fun i hi => ?_⟩
    have := World.ownsRow.cells h (g := g) rfl i (.int .i64 xs[i]) (by simp [hi])
    show w.cell? ⟨g, 0 + i, none⟩ = some (.int .i64 (xs.getD i 0))
    rw [getD_lt _ _ hi]
    rw [← this]
    simp [Addr.add]
    split
    · next e => subst e; rfl
    · rfl
theorem OwnL.intsF {w : World} {base : Nat} {v : Value} {n : Nat} {f : Nat → Int} (h : OwnL w base v ((List.range n).map f)) (hn : n ≤ 9223372036854775807) (hr : ∀ i, i < n → R64 (f i)) : IntsAt w v n f := by
  have h1 := h.ints (by simpa using hn) (fun x hx => by
    obtain ⟨i, hi, rfl⟩ := List.mem_map.1 hx
    exact hr i (List.mem_range.1 hi))
  rw [List.length_map, List.length_range] at h1
  exact h1.congr fun i hi => by simp [hi]
theorem wpList_app1 {P : Program} (hP : P = Try.prog) {w : World} {ops : Array Oper} {rest : List Oper} {o : Oper} {a : Act} {Q : Exit → Act → World → Prop} (hgd : o.guard = none) (s x : Operand)
    (ho : o.op = .call { callee := .builtin .append, args := #[s, x], argTypes := #[25, 25] })
    (base : Nat) (v : Value) (xs : List Int) (y : Int) (hs : a.eval s = v) (hown : OwnL w base v xs) (g c : Nat) (hx : a.eval x = .slice (some ⟨g, 0, none⟩) 1 c) (hc : w.cell? ⟨g, 0, none⟩ = some (.int .i64 y))
    (hlen : xs.length ≤ 1000000) (hb : base ≤ w.heap.size)
    (h : ∀ v' w', OwnL w' base v' (xs ++ [y]) → Below base w w' → w.grownBy w' v.ownBlock → wpList P ops Q rest (a.put o.dst v') w') : wpList P ops Q (o :: rest) a w := by
  subst hP
  obtain ⟨i0, hi, hz0, hz1, hz2⟩ := info_parts info_int
  refine wpList_append_own w hgd s x 25 ho base 3 i0 (.int .i64 0) 1 8 Try.underlying25 hi hz0 hz1 hz2 rfl (by decide) v xs.length _ hs hown ⟨g, 0, none⟩ 1 c [.int .i64 y] hx rfl ?_ ?_ ?_ ?_ hb ?_
  · intro j u hu
    cases j with
    | zero => simp at hu; subst hu; exact hc
    | succ j => simp at hu
  · intro u hu; simp at hu; subst hu; rfl
  · unfold maxLen; omega
  · omega
  · intro v' w' h1 h2 _
    refine h v' w' ?_ ?_ h2
    · unfold OwnL; simpa using h1
    · exact (Below.refl base w).grown h2 hb (fun k hk => (World.ownsRow.lt hown k hk).1)

theorem below_drewN {B : Nat} {a w : World} (h : Below B a w) (n : Nat) : Below B a (w.drewN n) := ⟨h.os, h.tape, h.output, h.size, h.block⟩
theorem bcell {W w1 : World} (hb : Below W.heap.size W w1) : (∀ b o, b < W.heap.size → w1.cell? ⟨b, o, none⟩ = W.cell? ⟨b, o, none⟩) ∧ (∀ b o, b < W.heap.size → w1.frozen? ⟨b, o, none⟩ = W.frozen? ⟨b, o, none⟩) :=
  ⟨fun b o h => hb.cell (p := ⟨b, o, none⟩) h, fun b o h => hb.frozen (p := ⟨b, o, none⟩) h⟩
theorem ret_int {k : IntKind} {a b : Int} (h : a = b) : Ending.returned (.int k a) = .returned (.int k b) := by rw [h]
theorem ret_bool {a b : Bool} (h : a = b) : Ending.returned (.bool a) = .returned (.bool b) := by rw [h]
end Go.Proofs.Ytecmoahadckomaa

namespace Go.Proofs.Ytecmoahadckomaa
open Go.RowKit

def mayB (n : Int) : Bool := decide (-4611686018427387904 ≤ n ∧ n ≤ 4611686018427387904)
theorem mayB_true {n : Int} (h0 : -4611686018427387904 ≤ n) (h1 : n ≤ 4611686018427387904) : mayB n = true := by
  unfold mayB; simp; omega
theorem mayB_false {n : Int} (h : n < -4611686018427387904 ∨ 4611686018427387904 < n) : mayB n = false := by
  unfold mayB; simp; omega

theorem May_any (n : Int) (w : World) (h0 : -9223372036854775808 ≤ n) (h1 : n ≤ 9223372036854775807) :
    Calls Try.prog 56 #[.int .i64 n] w fun e w' => e = .returned (.bool (mayB n)) ∧ w = w' := by
  go_enter Try.func56, Try.ntmps56
  go_wp2
  all_goals (go_ret; exact ⟨ret_bool (by unfold mayB; rw [Bool.eq_iff_iff]; simp; omega), rfl⟩)

theorem RMay_any (n : Int) (w : World) (h0 : -9223372036854775808 ≤ n) (h1 : n ≤ 9223372036854775807) :
    Calls Try.prog 54 #[.int .i64 n] w fun e w' => e = .returned (.bool (mayB n)) ∧ w = w' := by
  go_enter Try.func54, Try.ntmps54
  go_wp2
  all_goals (go_ret; exact ⟨ret_bool (by unfold mayB; rw [Bool.eq_iff_iff]; simp; omega), rfl⟩)
end Go.Proofs.Ytecmoahadckomaa

namespace Go.Proofs.Ytecmoahadckomaa
open Go.RowKit

def cellsK : List (Nat × Nat × Value) → World → Prop
  | [], _ => True
  | (b, o, v) :: K, x => (x.cell? ⟨b, o, none⟩ = some v ∧ b < x.heap.size) ∧ cellsK K x
/-- The cells of a row, from the i-th one on. -/
def rowK (b : Nat) : List Value → Nat → List (Nat × Nat × Value)
  | [], _ => []
  | v :: l, i => (b, i, v) :: rowK b l (i + 1)
theorem cellsK.step {K : List (Nat × Nat × Value)} {x y : World} (h : cellsK K x) (hb : Below x.heap.size x y) : cellsK K y := by
  induction K with
  | nil => trivial
  | cons a K ih =>
    obtain ⟨b, o, v⟩ := a
    obtain ⟨⟨h0, h1⟩, h2⟩ := h
    exact ⟨⟨(hb.cell (p := ⟨b, o, none⟩) h1).trans h0, by have := hb.size; omega⟩, ih h2⟩
/-- x is w below its blocks, and holds K. -/
structure Bx (w : World) (K : List (Nat × Nat × Value)) (x : World) : Prop where
  cells : cellsK K x
  bel : Below w.heap.size w x
section
variable {w x y : World} {K : List (Nat × Nat × Value)}
theorem Bx.nil (w : World) : Bx w [] w := ⟨trivial, Below.refl _ _⟩
theorem Bx.step (h : Bx w K x) (hb : Below x.heap.size x y) : Bx w K y := ⟨h.cells.step hb, h.bel.trans (hb.mono h.bel.size)⟩
theorem Bx.drew (h : Bx w K x) : Bx w K x.drew := h.step (Below.refl _ _).drew
theorem Bx.drewN (h : Bx w K x) (d : Nat) : Bx w K (x.drewN d) := h.step (below_drewN (Below.refl _ _) d)
theorem Bx.skip (h : Bx w K x) (o : Obj) : Bx w K (x.alloc o) := h.step ((Below.refl _ _).alloc (Nat.le_refl _) _)
theorem Bx.one (h : Bx w K x) (v : Value) (t : TypeId) : Bx w ((x.heap.size, 0, v) :: K) (x.alloc (.cells #[v] t)) :=
  ⟨⟨by simp, (h.skip _).cells⟩, (h.skip _).bel⟩
theorem Bx.cast {L : List (Nat × Nat × Value)} (h : Bx w K x) (e : K = L) : Bx w L x := e ▸ h
theorem Bx.row (h : Bx w K x) (vs : Array Value) (t : TypeId) : Bx w (rowK x.heap.size vs.toList 0 ++ K) (x.alloc (.cells vs t)) := by
  refine ⟨?_, (h.skip _).bel⟩
  have : ∀ (l : List Value) (i : Nat), (∀ j, j < l.length → l[j]? = vs[i + j]?) → cellsK (rowK x.heap.size l i ++ K) (x.alloc (.cells vs t)) := by
    intro l
    induction l with
    | nil => intro i _; exact (h.skip _).cells
    | cons v l ih =>
      intro i hl
      have h0 := hl 0 (by simp)
      simp at h0
      refine ⟨⟨?_, by simp⟩, ih (i + 1) fun j hj => ?_⟩
      · have hlt : i < vs.size := (Array.getElem?_eq_some_iff.1 h0.symm).1
        have hr := World.rowIs_alloc x vs t (fun i => vs.getD i .nilIface) (fun i hi => by simp [Array.getD, hi])
        rw [hr.cell hlt]
        rw [Array.getElem?_eq_getElem hlt] at h0
        injection h0 with h0
        simp [Array.getD, hlt, h0]
      · have := hl (j + 1) (by simp; omega)
        simp at this
        rw [this]
        congr 1
        omega
  exact this vs.toList 0 fun j hj => by simp
theorem cellsK.grown {r : Nat} (h : cellsK K x) (hg : x.grownBy y (some r)) (hK : ∀ a ∈ K, a.1 ≠ r) : cellsK K y := by
  induction K with
  | nil => trivial
  | cons a K ih =>
    obtain ⟨b, o, v⟩ := a
    obtain ⟨⟨h0, h1⟩, h2⟩ := h
    have hne : b ≠ r := hK (b, o, v) (by simp)
    refine ⟨⟨?_, Nat.lt_of_lt_of_le h1 hg.size⟩, ih h2 fun a ha => hK a (by simp [ha])⟩
    have hh : y.heap[b]? = x.heap[b]? := hg.block b h1 (by simpa using hne)
    rw [← h0]
    unfold World.cell?
    simp only [hh]
theorem Bx.grown {r : Nat} (h : Bx w K x) (hg : x.grownBy y (some r)) (hw : w.heap.size ≤ r) (hK : ∀ a ∈ K, a.1 ≠ r) : Bx w K y :=
  ⟨h.cells.grown hg hK, h.bel.grown hg h.bel.size (fun k hk => by injection hk with hk; omega)⟩
theorem Bx.drop {a : Nat × Nat × Value} (h : Bx w (a :: K) x) : Bx w K x := ⟨h.cells.2, h.bel⟩
/-- A store into the box at the head. -/
theorem cellsK.set {b o : Nat} {u : Value} (h : cellsK K x) (hne : ∀ a ∈ K, a.1 ≠ b) : cellsK K (x.setCell ⟨b, o, none⟩ u) := by
  induction K with
  | nil => trivial
  | cons a K ih =>
    obtain ⟨b', o', v'⟩ := a
    obtain ⟨⟨h0, h1⟩, h2⟩ := h
    have hb' : b' ≠ b := hne (b', o', v') (by simp)
    refine ⟨⟨?_, by simpa using h1⟩, ih h2 fun a ha => hne a (by simp [ha])⟩
    by_cases ho : (⟨b, o, none⟩ : Addr) = ⟨b', o', none⟩
    · injection ho with e1 e2; exact absurd e1.symm hb'
    · exact (World.cell?_setCell_other _ _ _ _ ho).trans h0
theorem Bx.set {b o : Nat} {v : Value} (h : Bx w ((b, o, v) :: K) x) (u : Value) (hne : ∀ a ∈ K, a.1 ≠ b) (hw : w.heap.size ≤ b) : Bx w ((b, o, u) :: K) (x.setCell ⟨b, o, none⟩ u) :=
  ⟨⟨⟨World.cell?_setCell_same' _ _ _ (by rw [h.cells.1.1]; rfl), by have := h.cells.1.2; simpa using this⟩, h.cells.2.set hne⟩, h.bel.setCell hw _⟩
end
theorem cellsK.app {K L : List (Nat × Nat × Value)} {x : World} (h : cellsK (K ++ L) x) : cellsK K x ∧ cellsK L x := by
  induction K with
  | nil => exact ⟨trivial, h⟩
  | cons a K ih =>
    obtain ⟨b, o, v⟩ := a
    exact ⟨⟨h.1, (ih h.2).1⟩, (ih h.2).2⟩
theorem Bx.left {w x : World} {K L : List (Nat × Nat × Value)} (h : Bx w (K ++ L) x) : Bx w K x := ⟨h.cells.app.1, h.bel⟩
theorem Bx.right {w x : World} {K L : List (Nat × Nat × Value)} (h : Bx w (K ++ L) x) : Bx w L x := ⟨h.cells.app.2, h.bel⟩
end Go.Proofs.Ytecmoahadckomaa

namespace Go.Proofs.Ytecmoahadckomaa
open Go.RowKit
def addOk (a b : Int) : Bool := mayB a && mayB b && mayB (a + b)
def subOk (a b : Int) : Bool := mayB a && mayB b && mayB (a - b)
theorem may_lo {x : Int} (h : mayB x = true) : -4611686018427387904 ≤ x ∧ x ≤ 4611686018427387904 := by unfold mayB at h; simpa using h
theorem addOk_wrap (a b : Int) : (mayB a && mayB b && mayB (wrap64 (a + b))) = addOk a b := by
  unfold addOk
  cases ha : mayB a with
  | false => simp
  | true =>
    cases hb : mayB b with
    | false => simp
    | true =>
      have := may_lo ha
      have := may_lo hb
      by_cases h : a + b ≤ 9223372036854775807
      · rw [show wrap64 (a + b) = a + b from by unfold wrap64; omega]
      · have e : wrap64 (a + b) = -9223372036854775808 := by unfold wrap64; omega
        rw [e, mayB_false (n := a + b) (by omega), mayB_false (n := -9223372036854775808) (by omega)]
theorem subOk_wrap (a b : Int) : (mayB a && mayB b && mayB (wrap64 (a - b))) = subOk a b := by
  unfold subOk
  cases ha : mayB a with
  | false => simp
  | true =>
    cases hb : mayB b with
    | false => simp
    | true =>
      have := may_lo ha
      have := may_lo hb
      by_cases h : a - b ≤ 9223372036854775807
      · rw [show wrap64 (a - b) = a - b from by unfold wrap64; omega]
      · have e : wrap64 (a - b) = -9223372036854775808 := by unfold wrap64; omega
        rw [e, mayB_false (n := a - b) (by omega), mayB_false (n := -9223372036854775808) (by omega)]
theorem addOk_val {a b : Int} (h : addOk a b = true) : wrap64 (a + b) = a + b := by
  unfold addOk at h
  simp only [Bool.and_eq_true] at h
  have := may_lo h.2
  unfold wrap64; omega
theorem subOk_val {a b : Int} (h : subOk a b = true) : wrap64 (a - b) = a - b := by
  unfold subOk at h
  simp only [Bool.and_eq_true] at h
  have := may_lo h.2
  unfold wrap64; omega
theorem wrap64_R (x : Int) : R64 (wrap64 x) := by unfold R64 wrap64; omega
end Go.Proofs.Ytecmoahadckomaa
