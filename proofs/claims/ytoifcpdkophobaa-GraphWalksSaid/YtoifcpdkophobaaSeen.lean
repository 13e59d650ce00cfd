/- A map of the call's own, of numbers that have been seen. -/
import Derived.Test.YtoifcpdkophobaaWords
import Derived.Maps.OwnSet
import Derived.BigFrame
namespace Go.Proofs.Ytoifcpdkophobaa
open Go.RowKit Go.Maps

theorem seen_law : Keyed Try.prog 3 := int_keyed Try.underlying3
theorem zero_bool (w : World) : (zeroValue 4).run Try.prog w = .ok (.bool false) w := by kernel_rfl
theorem wf_i64 {x : Int} (h : R64 x) : (Lit.int .i64 x).wf = true := by
  obtain ⟨h0, h1⟩ := h
  exact WalkArith.wf_i64 (by omega)
theorem key_i64 {x : Int} (h : R64 x) : keyOf Try.prog 3 (.int .i64 x) = some (.int .i64 x) := keyOf_int_mk Try.underlying3 (wf_i64 h)
theorem plainElem_bool_inv {H : Type} {P : Program} {e : TypeId} (he : P.underlying e = some .bool) {v : Value} {z : DataW H × List MemPlace} (h : plainElem P e v = some z) : ∃ x, v = .bool x ∧ z = (.lit (.bool x), []) := by
  unfold plainElem at h
  rw [he] at h
  cases v <;> simp at h
  exact ⟨_, rfl, h.symm⟩

def SeenAt (w : World) (b n : Nat) (S : Int → Bool) : Prop :=
  ∃ D : DataW Unit, w.ownsMap Try.prog 3 (plainElem Try.prog 4) b n D ∧ ∀ x, D.atKey (.int .i64 x) (.lit (.bool false)) = .lit (.bool (S x))

section
variable {w w' : World} {b n : Nat} {S : Int → Bool}
theorem SeenAt.made (w : World) : SeenAt (w.alloc (.map #[] 0)) w.heap.size 0 (fun _ => false) := ⟨.map [], World.ownsMap_made _ _ _ _, fun _ => rfl⟩
theorem SeenAt.lt (h : SeenAt w b n S) : b < w.heap.size := by obtain ⟨D, h, _⟩ := h; exact h.lt
theorem SeenAt.kept {row : Option Nat} (h : SeenAt w b n S) (hg : w.grownBy w' row) (hne : some b ≠ row) : SeenAt w' b n S := by
  obtain ⟨D, h, hS⟩ := h
  exact ⟨D, h.kept hg hne, hS⟩
theorem SeenAt.alloc (h : SeenAt w b n S) (o : Obj) : SeenAt (w.alloc o) b n S := h.kept (World.grownBy_alloc w o none) (by simp)
theorem SeenAt.below {B : Nat} (h : SeenAt w b n S) (hb : Below B w w') (hB : b < B) : SeenAt w' b n S := by
  obtain ⟨D, ⟨es, clock, h1, h2⟩, hS⟩ := h
  exact ⟨D, ⟨es, clock, (hb.block b hB).trans h1, h2⟩, hS⟩
theorem SeenAt.congr {S' : Int → Bool} (h : SeenAt w b n S) (e : ∀ x, S x = S' x) : SeenAt w b n S' := by
  obtain ⟨D, h, hS⟩ := h
  exact ⟨D, h, fun x => by rw [hS, e]⟩
theorem SeenAt.look (h : SeenAt w b n S) {x : Int} (hx : R64 x) : (Instr.lookup 48 (.map (some b)) (.int .i64 x) false).run Try.prog w = .ok (.bool (S x)) w := by
  obtain ⟨D, ho, hS⟩ := h
  obtain ⟨v, ps, hrun, hv⟩ := ho.lookup seen_law Try.underlying48 (zero_bool w) (plainElem_bool Try.underlying4 false) (key_i64 hx)
  obtain ⟨y, rfl, h2⟩ := plainElem_bool_inv Try.underlying4 hv
  rw [hS] at h2
  simp only [Prod.mk.injEq, DataW.lit.injEq, Lit.bool.injEq] at h2
  rw [hrun, h2.1]
theorem SeenAt.store (h : SeenAt w b n S) (hn : n < maxLen) {x : Int} (hx : R64 x) : ∃ w', (Instr.mapUpdate 48 (.map (some b)) (.int .i64 x) (.bool true)).run Try.prog w = .ok () w' ∧ SeenAt w' b (n + 1) (fun y => decide (y = x) || S y) ∧ w.grownBy w' (some b) := by
  obtain ⟨D, ho, hS⟩ := h
  obtain ⟨w', hrun, h1, h2⟩ := ho.update seen_law Try.underlying48 hn (key_i64 hx) (plainElem_bool Try.underlying4 true)
  refine ⟨w', hrun, ⟨_, h1, fun y => ?_⟩, h2⟩
  by_cases e : y = x
  · subst e
    rw [atKey_put_same ho.isMap (seen_law.key (key_i64 hx))]
    simp
  · rw [atKey_put_other (fun h => e (by injection h)), hS]
    simp [e]
end
theorem wpList_seen {w : World} {ops : Array Oper} {rest : List Oper} {o : Oper} {a : Act} {Q : Exit → Act → World → Prop} (hg : o.guard = none) (m x v : Operand) (hop : o.op = Op.mapUpdate 48 m x v)
    (b n : Nat) (S : Int → Bool) (hm : a.eval m = .map (some b)) (h : SeenAt w b n S) (hn : n < maxLen) (k : Int) (hx : a.eval x = .int .i64 k) (hv : a.eval v = .bool true) (hk : R64 k)
    (hK : ∀ w', SeenAt w' b (n + 1) (fun y => decide (y = k) || S y) → w.grownBy w' (some b) → wpList Try.prog ops Q rest (a.put o.dst undef) w') :
    wpList Try.prog ops Q (o :: rest) a w := by
  refine wpList_plain hg fun K' hK' => ?_
  obtain ⟨w', hrun, r1, r2⟩ := h.store hn hk
  unfold Oper.wp
  simp [execOp, hop, hm, hx, hv, hrun, Result.andThen]
  exact hK' _ _ (hK w' r1 r2)
end Go.Proofs.Ytoifcpdkophobaa
