/- Maps of nodes to places. -/
import Derived.Test.YthkbekfdjfmmbaaNode
import Derived.Maps.OwnSet
import Derived.DeepKeys4
import Derived.WideKeyArgs
namespace Go.Proofs.Ythkbekfdjfmmbaa
open Go.RowKit Go.Maps

theorem wf_i64 {x : Int} (h : R64 x) : (Lit.int .i64 x).wf = true := by
  obtain ⟨h0, h1⟩ := h
  exact WalkArith.wf_i64 (by omega)
theorem wf_i8 {x : Int} (h : R8 x) : (Lit.int .i8 x).wf = true := by
  obtain ⟨h0, h1⟩ := h
  simp [Lit.wf, IntKind.min, IntKind.max, IntKind.signed, IntKind.bits]
  omega
theorem node_laid : laidOutB Try.prog = true := by kernel_rfl
theorem node_row : (62 : TypeId) < Try.prog.types.size := of_decide_eq_true (by kernel_rfl)
theorem node_kt : Try.prog.keyTypeAt 3 62 = true := by kernel_rfl
theorem node_m : 3 + 1 ≤ 10000 := by omega
theorem node_key : WideMaps.KeyLaw Try.prog 62 := by
  refine deep_law_laid (m := 3) node_laid ?_ node_row ?_ ?_
  · exact node_m
  · exact node_kt
  · rw [Try.underlying62]
theorem node_law : Keyed Try.prog 62 := Keyed.of_law node_key

theorem kl_int (d : Nat) {x : Int} (h : R64 x) : Try.prog.keyLits (d + 1) 3 [.int .i64 x] = some [.int .i64 x] := by
  simp [Program.keyLits, Try.underlying3, wf_i64 h]
theorem kl_i8 (d : Nat) {x : Int} (h : R8 x) : Try.prog.keyLits (d + 1) 38 [.int .i8 x] = some [.int .i8 x] := by
  simp [Program.keyLits, Try.underlying38, wf_i8 h]
theorem cells_int : Try.prog.cellsOf 3 = 1 := by kernel_rfl
theorem cells_i8 : Try.prog.cellsOf 38 = 1 := by kernel_rfl
theorem cells_arr : Try.prog.cellsOf 27 = 3 := by kernel_rfl
theorem cells_node : Try.prog.cellsOf 62 = 8 := by kernel_rfl
theorem kl_arr (d : Nat) {a b c : Int} (ha : R64 a) (hb : R64 b) (hc : R64 c) : Try.prog.keyLits (d + 2) 27 [.int .i64 a, .int .i64 b, .int .i64 c] = some [.int .i64 a, .int .i64 b, .int .i64 c] := by
  unfold Program.keyLits
  rw [Try.underlying27]
  simp [cells_int, cells_arr, List.range_succ, kl_int d ha, kl_int d hb, kl_int d hc]
theorem kl_node (d : Nat) {e : Nd} (h : NdR e) : ∃ l, Try.prog.keyLits (d + 3) 62 (ndC e) = some l := by
  unfold Program.keyLits
  rw [Try.underlying62]
  simp [ndC, cells_int, cells_i8, cells_arr, cells_node, kl_i8 (d + 1) h.op, kl_i8 (d + 1) h.len, kl_arr d h.a0 h.a1 h.a2, kl_int (d + 1) h.sort, kl_int (d + 1) h.fn, kl_int (d + 1) h.num]
noncomputable def ndL (e : Nd) : Lit := (keyOf Try.prog 62 (ndV e)).getD (.bool true)
theorem key_nd {e : Nd} (h : NdR e) : keyOf Try.prog 62 (ndV e) = some (ndL e) := by
  have : ∃ l, keyOf Try.prog 62 (ndV e) = some l := by
    obtain ⟨d, hd⟩ : ∃ d, Try.prog.types.size + 1 = d + 3 := ⟨Try.prog.types.size - 2, by have : (2 : Nat) ≤ Try.prog.types.size := of_decide_eq_true (by kernel_rfl); omega⟩
    obtain ⟨l, hl⟩ := kl_node d h
    unfold keyOf
    rw [Try.underlying62, hd]
    have h1 : Try.prog.keyType 62 = true := by kernel_rfl
    have h2 : (ndV e).formed Try.prog 62 = true := by simp [ndV, Value.formed, Try.underlying62, cells_node]
    have h3 : (ndV e).cells.toList = ndC e := rfl
    simp only [h1, h2, h3, hl, Bool.and_self, if_true, Option.map_some]
    exact ⟨_, rfl⟩
  obtain ⟨l, hl⟩ := this
  unfold ndL
  rw [hl]; rfl
theorem ndV_inj {e f : Nd} (h : ndV e = ndV f) : e = f := by
  obtain ⟨x0, x1, x2, x3, x4, x5, x6, x7⟩ := e
  obtain ⟨y0, y1, y2, y3, y4, y5, y6, y7⟩ := f
  simp [ndV] at h
  simp [h]
theorem ndL_inj {e f : Nd} (he : NdR e) (hf : NdR f) (h : ndL e = ndL f) : e = f := by
  have h1 := key_nd he
  have h2 := key_nd hf
  rw [← h] at h2
  exact ndV_inj (node_law.inj h1 h2)
/-- Block b of w is a map of nodes to places: S; c of them. -/
def PlAt (w : World) (b n : Nat) (S : Nd → Option Int) (c : Nat) : Prop :=
  ∃ D : DataW Unit, w.ownsMap Try.prog 62 (plainElem Try.prog 3) b n D ∧ Maps.size D = c ∧
    ∀ e, NdR e → Maps.has D (ndL e) = (S e).isSome ∧ D.atKey (ndL e) (.lit (.int .i64 0)) = .lit (.int .i64 ((S e).getD 0))
theorem zero_int (w : World) : (zeroValue 3).run Try.prog w = .ok (.int .i64 0) w := by kernel_rfl
section
variable {w w' : World} {b n c : Nat} {S : Nd → Option Int}
theorem PlAt.made (w : World) : PlAt (w.alloc (.map #[] 0)) w.heap.size 0 (fun _ => none) 0 := ⟨.map [], World.ownsMap_made _ _ _ _, rfl, fun _ _ => ⟨rfl, rfl⟩⟩
theorem PlAt.lt (h : PlAt w b n S c) : b < w.heap.size := by obtain ⟨D, h, _⟩ := h; exact h.lt
theorem PlAt.kept {row : Option Nat} (h : PlAt w b n S c) (hg : w.grownBy w' row) (hne : some b ≠ row) : PlAt w' b n S c := by
  obtain ⟨D, h, hS⟩ := h
  exact ⟨D, h.kept hg hne, hS⟩
theorem PlAt.alloc (h : PlAt w b n S c) (o : Obj) : PlAt (w.alloc o) b n S c := h.kept (World.grownBy_alloc w o none) (by simp)
theorem PlAt.below {B : Nat} (h : PlAt w b n S c) (hb : Below B w w') (hB : b < B) : PlAt w' b n S c := by
  obtain ⟨D, ⟨es, clock, h1, h2⟩, hS⟩ := h
  exact ⟨D, ⟨es, clock, (hb.block b hB).trans h1, h2⟩, hS⟩
theorem PlAt.congr {S' : Nd → Option Int} {c' : Nat} (h : PlAt w b n S c) (e : ∀ x, NdR x → S x = S' x) (ec : c = c') : PlAt w b n S' c' := by
  obtain ⟨D, h, hc, hS⟩ := h
  exact ⟨D, h, hc.trans ec, fun x hx => by rw [← e x hx]; exact hS x hx⟩
theorem PlAt.look (h : PlAt w b n S c) {e : Nd} (he : NdR e) : (Instr.lookup 115 (.map (some b)) (ndV e) true).run Try.prog w = .ok (.tuple #[.int .i64 ((S e).getD 0), .bool (S e).isSome]) w := by
  obtain ⟨D, ho, hc, hS⟩ := h
  obtain ⟨v, ps, hrun, hv⟩ := ho.look_ok node_law Try.underlying115 (zero_int w) (plainElem_int Try.underlying3 (by decide)) (key_nd he)
  obtain ⟨y, rfl, h2, _⟩ := plainElem_int_inv Try.underlying3 hv
  obtain ⟨s1, s2⟩ := hS e he
  rw [s2] at h2
  simp only [Prod.mk.injEq, DataW.lit.injEq, Lit.int.injEq, true_and] at h2
  rw [hrun, s1, h2.1]
theorem PlAt.len (h : PlAt w b n S c) (ty : TypeId) : (Builtin.len_ #[115] ty #[.map (some b)]).run Try.prog w = .ok (.int .i64 c) w := by
  obtain ⟨D, ho, rfl, hS⟩ := h
  exact ho.len Try.underlying115 ty
theorem PlAt.store (h : PlAt w b n S c) (hn : n < maxLen) {e : Nd} (he : NdR e) {k : Int} (hk : R64 k) :
    ∃ w', (Instr.mapUpdate 115 (.map (some b)) (ndV e) (.int .i64 k)).run Try.prog w = .ok () w' ∧ PlAt w' b (n + 1) (fun f => if f = e then some k else S f) (if (S e).isSome then c else c + 1) ∧ w.grownBy w' (some b) := by
  obtain ⟨D, ho, hc, hS⟩ := h
  have hl := key_nd he
  have hd := (hS e he).1
  have hne : ∀ f, NdR f → f ≠ e → ndL f ≠ ndL e := fun f hf ef h => ef (ndL_inj hf he h)
  generalize ndL e = l at hl hd hne
  obtain ⟨w', hrun, h1, h2⟩ := ho.update node_law Try.underlying115 hn hl (plainElem_int Try.underlying3 (wf_i64 hk))
  have hkl : WideAt.IsKeyLit l := node_law.key hl
  have hlq := key_nd he
  rw [hl] at hlq
  injection hlq with hlq
  refine ⟨w', hrun, ⟨_, h1, ?_, fun f hf => ?_⟩, h2⟩
  · rw [size_put (ho.tidy node_law), hd, hc]
  · by_cases ef : f = e
    · subst ef
      simp only [if_true]
      rw [← hlq, has_put_same ho.isMap hkl, atKey_put_same ho.isMap hkl]
      exact ⟨rfl, rfl⟩
    · simp only [ef, if_false]
      rw [has_put_other (hne f hf ef), atKey_put_other (hne f hf ef)]
      exact hS f hf
end
theorem wpList_place {w : World} {ops : Array Oper} {rest : List Oper} {o : Oper} {a : Act} {Q : Exit → Act → World → Prop} (hg : o.guard = none) (m x v : Operand) (hop : o.op = Op.mapUpdate 115 m x v)
    (b n : Nat) (S : Nd → Option Int) (c : Nat) (hm : a.eval m = .map (some b)) (h : PlAt w b n S c) (hn : n < maxLen) (e : Nd) (k : Int) (hx : a.eval x = ndV e) (hv : a.eval v = .int .i64 k) (he : NdR e) (hk : R64 k)
    (hK : ∀ w', PlAt w' b (n + 1) (fun f => if f = e then some k else S f) (if (S e).isSome then c else c + 1) → w.grownBy w' (some b) → wpList Try.prog ops Q rest (a.put o.dst undef) w') :
    wpList Try.prog ops Q (o :: rest) a w := by
  refine wpList_plain hg fun K' hK' => ?_
  obtain ⟨w', hrun, r1, r2⟩ := h.store hn he hk
  unfold Oper.wp
  simp [execOp, hop, hm, hx, hv, hrun, Result.andThen]
  exact hK' _ _ (hK w' r1 r2)
theorem run_places (n : Nat) (_hn : n ≤ 1000000) (w : World) : (Instr.makeMap 115 (some (.int .i64 n))).run Try.prog w = .ok (.map (some w.heap.size)) (w.alloc (.map #[] 0)) := by
  simp [Instr.makeMap, run_underlying Try.underlying115]; rfl
end Go.Proofs.Ythkbekfdjfmmbaa
