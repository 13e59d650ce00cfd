/- Maps of nodes to places. -/
import Derived.Test.YtecmoahadckomaaZNodeArityStands
import Derived.Maps.OwnSet
import Derived.DeepKeys4
import Derived.WideKeyArgs
namespace Go.Proofs.Ytecmoahadckomaa
open Go.RowKit Go.Maps

theorem wf_i64 {x : Int} (h : R64 x) : (Lit.int .i64 x).wf = true := by
  obtain ⟨h0, h1⟩ := h
  exact WalkArith.wf_i64 (by omega)
theorem wf_i8 {x : Int} (h : R8 x) : (Lit.int .i8 x).wf = true := by
  obtain ⟨h0, h1⟩ := h
  simp [Lit.wf, IntKind.min, IntKind.max, IntKind.signed, IntKind.bits]
  omega
theorem node_laid : laidOutB Try.prog = true := by kernel_rfl
theorem node_row : (39 : TypeId) < Try.prog.types.size := of_decide_eq_true (by kernel_rfl)
theorem node_kt : Try.prog.keyTypeAt 3 39 = true := by kernel_rfl
theorem node_m : 3 + 1 ≤ 10000 := by omega
theorem node_key : WideMaps.KeyLaw Try.prog 39 := by
  refine deep_law_laid (m := 3) node_laid ?_ node_row ?_ ?_
  · exact node_m
  · exact node_kt
  · rw [Try.underlying39]
theorem node_law : Keyed Try.prog 39 := Keyed.of_law node_key

theorem kl_int (d : Nat) {x : Int} (h : R64 x) : Try.prog.keyLits (d + 1) 3 [.int .i64 x] = some [.int .i64 x] := by
  simp [Program.keyLits, Try.underlying3, wf_i64 h]
theorem kl_i8 (d : Nat) {x : Int} (h : R8 x) : Try.prog.keyLits (d + 1) 36 [.int .i8 x] = some [.int .i8 x] := by
  simp [Program.keyLits, Try.underlying36, wf_i8 h]
theorem cells_int : Try.prog.cellsOf 3 = 1 := by kernel_rfl
theorem cells_i8 : Try.prog.cellsOf 36 = 1 := by kernel_rfl
theorem cells_arr : Try.prog.cellsOf 37 = 3 := by kernel_rfl
theorem cells_node : Try.prog.cellsOf 39 = 8 := by kernel_rfl
theorem kl_arr (d : Nat) {a b c : Int} (ha : R64 a) (hb : R64 b) (hc : R64 c) : Try.prog.keyLits (d + 2) 37 [.int .i64 a, .int .i64 b, .int .i64 c] = some [.int .i64 a, .int .i64 b, .int .i64 c] := by
  unfold Program.keyLits
  rw [Try.underlying37]
  simp [cells_int, cells_arr, List.range_succ, kl_int d ha, kl_int d hb, kl_int d hc]
theorem kl_node (d : Nat) {e : Nd} (h : NdR e) : ∃ l, Try.prog.keyLits (d + 3) 39 (ndC e) = some l := by
  unfold Program.keyLits
  rw [Try.underlying39]
  simp [ndC, cells_int, cells_i8, cells_arr, cells_node, kl_i8 (d + 1) h.op, kl_i8 (d + 1) h.len, kl_arr d h.a0 h.a1 h.a2, kl_int (d + 1) h.sort, kl_int (d + 1) h.fn, kl_int (d + 1) h.num]
noncomputable def ndL (e : Nd) : Lit := (keyOf Try.prog 39 (ndV e)).getD (.bool true)
theorem key_nd {e : Nd} (h : NdR e) : keyOf Try.prog 39 (ndV e) = some (ndL e) := by
  have : ∃ l, keyOf Try.prog 39 (ndV e) = some l := by
    obtain ⟨d, hd⟩ : ∃ d, Try.prog.types.size + 1 = d + 3 := ⟨Try.prog.types.size - 2, by have : (2 : Nat) ≤ Try.prog.types.size := of_decide_eq_true (by kernel_rfl); omega⟩
    obtain ⟨l, hl⟩ := kl_node d h
    unfold keyOf
    rw [Try.underlying39, hd]
    have h1 : Try.prog.keyType 39 = true := by kernel_rfl
    have h2 : (ndV e).formed Try.prog 39 = true := by simp [ndV, Value.formed, Try.underlying39, cells_node]
    have h3 : (ndV e).cells.toList = ndC e := rfl
    simp only [h1, h2, h3, hl, Bool.and_self, if_true, Option.map_some]
    exact ⟨_, rfl⟩
  obtain ⟨l, hl⟩ := this
  unfold ndL
  rw [hl]; rfl
theorem ndV_inj {e f : Nd} (h : ndV e = ndV f) : e = f := by
  obtain ⟨x0, x1, x2, x3, x4, x5, x6, x7⟩ := e
  obtain ⟨y0, y1, y2, y3, y4, y5, y6, y7⟩ := f
  simp [ndV] at h
  simp [h]
theorem ndL_inj {e f : Nd} (he : NdR e) (hf : NdR f) (h : ndL e = ndL f) : e = f := by
  have h1 := key_nd he
  have h2 := key_nd hf
  rw [← h] at h2
  exact ndV_inj (node_law.inj h1 h2)
/-- Block b of w is a map of nodes to places: S; c of them. -/
def PlAt (w : World) (b n : Nat) (S : Nd → Option Int) (c : Nat) : Prop :=
  ∃ D : DataW Unit, w.ownsMap Try.prog 39 (plainElem Try.prog 3) b n D ∧ Maps.size D = c ∧
    ∀ e, NdR e → Maps.has D (ndL e) = (S e).isSome ∧ D.atKey (ndL e) (.lit (.int .i64 0)) = .lit (.int .i64 ((S e).getD 0))
theorem zero_int (w : World) : (zeroValue 3).run Try.prog w = .ok (.int .i64 0) w := by kernel_rfl
section
variable {w w' : World} {b n c : Nat} {S : Nd → Option Int}
theorem PlAt.made (w : World) : PlAt (w.alloc (.map #[] 0)) w.heap.size 0 (fun _ => none) 0 := ⟨.map [], World.ownsMap_made _ _ _ _, rfl, fun _ _ => ⟨rfl, rfl⟩⟩
theorem PlAt.lt (h : PlAt w b n S c) : b < w.heap.size := by obtain ⟨D, h, _⟩ := h; exact h.lt
theorem PlAt.kept {row : Option Nat} (h : PlAt w b n S c) (hg : w.grownBy w' row) (hne : some b ≠ row) : PlAt w' b n S c := by
  obtain ⟨D, h, hS⟩ := h
  exact ⟨D, h.kept hg hne, hS⟩
theorem PlAt.alloc (h : PlAt w b n S c) (o : Obj) : PlAt (w.alloc o) b n S c := h.kept (World.grownBy_alloc w o none) (by simp)
theorem PlAt.below {B : Nat} (h : PlAt w b n S c) (hb : Below B w w') (hB : b < B) : PlAt w' b n S c := by
  obtain ⟨D, ⟨es, clock, h1, h2⟩, hS⟩ := h
  exact ⟨D, ⟨es, clock, (hb.block b hB).trans h1, h2⟩, hS⟩
theorem PlAt.congr {S' : Nd → Option Int} {c' : Nat} (h : PlAt w b n S c) (e : ∀ x, NdR x → S x = S' x) (ec : c = c') : PlAt w b n S' c' := by
  obtain ⟨D, h, hc, hS⟩ := h
  exact ⟨D, h, hc.trans ec, fun x hx => by rw [← e x hx]; exact hS x hx⟩
theorem PlAt.look (h : PlAt w b n S c) {e : Nd} (he : NdR e) : (Instr.lookup 65 (.map (some b)) (ndV e) true).run Try.prog w = .ok (.tuple #[.int .i64 ((S e).getD 0), .bool (S e).isSome]) w := by
  obtain ⟨D, ho, hc, hS⟩ := h
  obtain ⟨v, ps, hrun, hv⟩ := ho.look_ok node_law Try.underlying65 (zero_int w) (plainElem_int Try.underlying3 (by decide)) (key_nd he)
  obtain ⟨y, rfl, h2, _⟩ := plainElem_int_inv Try.underlying3 hv
  obtain ⟨s1, s2⟩ := hS e he
  rw [s2] at h2
  simp only [Prod.mk.injEq, DataW.lit.injEq, Lit.int.injEq, true_and] at h2
  rw [hrun, s1, h2.1]
theorem PlAt.len (h : PlAt w b n S c) (ty : TypeId) : (Builtin.len_ #[65] ty #[.map (some b)]).run Try.prog w = .ok (.int .i64 c) w := by
  obtain ⟨D, ho, rfl, hS⟩ := h
  exact ho.len Try.underlying65 ty
theorem PlAt.store (h : PlAt w b n S c) (hn : n < maxLen) {e : Nd} (he : NdR e) {k : Int} (hk : R64 k) :
    ∃ w', (Instr.mapUpdate 65 (.map (some b)) (ndV e) (.int .i64 k)).run Try.prog w = .ok () w' ∧ PlAt w' b (n + 1) (fun f => if f = e then some k else S f) (if (S e).isSome then c else c + 1) ∧ w.grownBy w' (some b) := by
  obtain ⟨D, ho, hc, hS⟩ := h
  have hl := key_nd he
  have hd := (hS e he).1
  have hne : ∀ f, NdR f → f ≠ e → ndL f ≠ ndL e := fun f hf ef h => ef (ndL_inj hf he h)
  generalize ndL e = l at hl hd hne
  obtain ⟨w', hrun, h1, h2⟩ := ho.update node_law Try.underlying65 hn hl (plainElem_int Try.underlying3 (wf_i64 hk))
  have hkl : WideAt.IsKeyLit l := node_law.key hl
  have hlq := key_nd he
  rw [hl] at hlq
  injection hlq with hlq
  refine ⟨w', hrun, ⟨_, h1, ?_, fun f hf => ?_⟩, h2⟩
  · rw [size_put (ho.tidy node_law), hd, hc]
  · by_cases ef : f = e
    · subst ef
      simp only [if_true]
      rw [← hlq, has_put_same ho.isMap hkl, atKey_put_same ho.isMap hkl]
      exact ⟨rfl, rfl⟩
    · simp only [ef, if_false]
      rw [has_put_other (hne f hf ef), atKey_put_other (hne f hf ef)]
      exact hS f hf
end
theorem wpList_place {w : World} {ops : Array Oper} {rest : List Oper} {o : Oper} {a : Act} {Q : Exit → Act → World → Prop} (hg : o.guard = none) (m x v : Operand) (hop : o.op = Op.mapUpdate 65 m x v)
    (b n : Nat) (S : Nd → Option Int) (c : Nat) (hm : a.eval m = .map (some b)) (h : PlAt w b n S c) (hn : n < maxLen) (e : Nd) (k : Int) (hx : a.eval x = ndV e) (hv : a.eval v = .int .i64 k) (he : NdR e) (hk : R64 k)
    (hK : ∀ w', PlAt w' b (n + 1) (fun f => if f = e then some k else S f) (if (S e).isSome then c else c + 1) → w.grownBy w' (some b) → wpList Try.prog ops Q rest (a.put o.dst undef) w') :
    wpList Try.prog ops Q (o :: rest) a w := by
  refine wpList_plain hg fun K' hK' => ?_
  obtain ⟨w', hrun, r1, r2⟩ := h.store hn he hk
  unfold Oper.wp
  simp [execOp, hop, hm, hx, hv, hrun, Result.andThen]
  exact hK' _ _ (hK w' r1 r2)
theorem run_places (n : Nat) (_hn : n ≤ 1000000) (w : World) : (Instr.makeMap 65 (some (.int .i64 n))).run Try.prog w = .ok (.map (some w.heap.size)) (w.alloc (.map #[] 0)) := by
  simp [Instr.makeMap, run_underlying Try.underlying65]; rfl
end Go.Proofs.Ytecmoahadckomaa

namespace Go.Proofs.Ytecmoahadckomaa
open Go.RowKit Go.Maps

def placeN (N : Nat → Nd) : Nat → Nd → Option Int
  | 0, _ => none
  | k + 1, e => if e = N k then some (k : Int) else placeN N k e
def cntN (N : Nat → Nd) : Nat → Nat
  | 0 => 0
  | k + 1 => if (placeN N k (N k)).isSome then cntN N k else cntN N k + 1
theorem cntN_le (N : Nat → Nd) (k : Nat) : cntN N k ≤ k := by
  induction k with
  | zero => exact Nat.le_refl _
  | succ k ih => unfold cntN; split <;> omega
theorem placeN_none (N : Nat → Nd) (k : Nat) (e : Nd) : placeN N k e = none ↔ ∀ i, i < k → N i ≠ e := by
  induction k with
  | zero => simp [placeN]
  | succ k ih =>
    unfold placeN
    by_cases h : e = N k
    · rw [if_pos h]
      constructor
      · intro h'; cases h'
      · intro h'; exact absurd h.symm (h' k (by omega))
    · rw [if_neg h, ih]
      constructor
      · intro h' i hi
        by_cases ei : i = k
        · subst ei; exact fun h'' => h h''.symm
        · exact h' i (by omega)
      · exact fun h' i hi => h' i (by omega)
theorem placeN_some (N : Nat → Nd) (k : Nat) (e : Nd) (x : Int) (h : placeN N k e = some x) : ∃ i, i < k ∧ N i = e ∧ x = i := by
  induction k with
  | zero => cases h
  | succ k ih =>
    unfold placeN at h
    split at h
    · next h' => injection h with h; exact ⟨k, by omega, h'.symm, h.symm⟩
    · obtain ⟨i, h1, h2, h3⟩ := ih h
      exact ⟨i, by omega, h2, h3⟩
def OnceN (N : Nat → Nd) (n : Nat) : Prop := ∀ i j, i < j → j < n → N i ≠ N j
theorem cntN_iff (N : Nat → Nd) (k : Nat) : cntN N k = k ↔ OnceN N k := by
  induction k with
  | zero => exact ⟨fun _ i j h1 h2 => by omega, fun _ => rfl⟩
  | succ k ih =>
    have hle := cntN_le N k
    unfold cntN
    cases hp : placeN N k (N k) with
    | some x =>
      simp only [Option.isSome_some, if_true]
      constructor
      · intro h; omega
      · intro h
        obtain ⟨i, h1, h2, _⟩ := placeN_some N k _ x hp
        exact absurd h2 (h i k h1 (by omega))
    | none =>
      simp only [Option.isSome_none, Bool.false_eq_true, if_false]
      have hno := (placeN_none N k _).1 hp
      constructor
      · intro h i j h1 h2
        by_cases e : j = k
        · subst e; exact hno i h1
        · exact ih.1 (by omega) i j h1 (by omega)
      · intro h
        rw [ih.2 fun i j h1 h2 => h i j h1 (by omega)]

theorem wpList_placeN {w : World} {ops : Array Oper} {rest : List Oper} {o : Oper} {a : Act} {Q : Exit → Act → World → Prop} (hg : o.guard = none) (m x v : Operand) (hop : o.op = Op.mapUpdate 65 m x v)
    (b j : Nat) (N : Nat → Nd) (hm : a.eval m = .map (some b)) (h : PlAt w b j (placeN N j) (cntN N j)) (hj : j < 1000000) (hx : a.eval x = ndV (N j)) (hv : a.eval v = .int .i64 j) (he : NdR (N j))
    (hK : ∀ w', Hid (PlAt w' b (j + 1) (placeN N (j + 1)) (cntN N (j + 1))) → w.grownBy w' (some b) → wpList Try.prog ops Q rest (a.put o.dst undef) w') :
    wpList Try.prog ops Q (o :: rest) a w :=
  wpList_place hg m x v hop b j _ _ hm h (by unfold maxLen; omega) (N j) j hx hv he (by unfold R64; omega) fun w' h1 h2 => hK w' (h1.congr (fun f _ => by rw [placeN]) (by rw [cntN])) h2

set_option maxHeartbeats 400000 in
theorem places_any (v : Value) (n : Nat) (N : Nat → Nd) (w : World) (hv : NdsAt w v n N) (hn : n ≤ 1000000) :
    Calls Try.prog 33 #[.agg #[v]] w fun e w' => ∃ b, e = .returned (.tuple #[.map (some b), .bool (decide (cntN N n = n))]) ∧ PlAt w' b n (placeN N n) (cntN N n) ∧ w.heap.size ≤ b ∧ Below w.heap.size w w' := by
  have hmk := run_places n hn
  have hr := Lib.hid hv.ranges
  obtain ⟨A, c, rfl, _, _, hc⟩ := hv
  have hc' := Lib.hid hc
  clear hc
  go_enter Try.func33, Try.ntmps33
  go_wp2
  clear hmk
  have hb0 : Below w.heap.size w (w.alloc (.cells #[.slice A n c] 24)) := (Below.refl _ _).alloc (Nat.le_refl _) _
  go_loopw [14] (fun i wr => ∃ j : Nat, j ≤ n ∧ i = .int .i64 j ∧ Hid (PlAt wr (w.heap.size + 1) j (placeN N j) (cntN N j)) ∧ w.heap.size + 1 < wr.heap.size ∧ wr.cell? ⟨w.heap.size, 0, none⟩ = some (.slice A n c) ∧ Below w.heap.size w wr) (fun i _ => n - (intOf i).toNat)
  case atStart =>
    refine ⟨0, Nat.zero_le _, rfl, ?_, by simp, by simp, hb0.alloc (by simp) _⟩
    have := (PlAt.made (w.alloc (.cells #[.slice A n c] 24))).congr (S' := placeN N 0) (c' := cntN N 0) (fun _ _ => rfl) rfl
    unfold Hid
    simpa using this
  case round =>
    obtain ⟨j, hj, rfl, hpl, hz1, hbx, hb⟩ := hrel
    by_cases hlt : j < n
    · obtain ⟨b, o, rfl, hbl, hcs⟩ := hc'.out (by omega)
      obtain ⟨q0, q1, q2, q3, q4, q5, q6, q7⟩ := (hcs j hlt).below hb hbl
      have hR := Lib.hid (hr.out j hlt)
      clear hcs
      go_wp2_with (at_mapUpdate; refine wpList_placeN rfl _ _ _ rfl (w.heap.size + 1) j N rfl (hpl.out.alloc _) (by omega) rfl rfl hR.out ?_)
      intro w1 hp1 hg1
      have hba : Below (w.heap.size + 1) wr w1 := ((Below.refl _ _).alloc (by omega) _).grown hg1 (by simp; omega) (fun k h => by injection h with h; omega)
      have hbx1 := (hba.cell (p := ⟨w.heap.size, 0, none⟩) (Nat.lt_succ_self _)).trans hbx
      have hz2 := hba.size
      have hb1 : Below w.heap.size w w1 := hb.trans (hba.mono (Nat.le_succ _))
      clear hg1 hpl hbx q0 q1 q2 q3 q4 q5 q6 q7
      go_wp2
      go_roundw
      case rel => exact ⟨j + 1, by omega, by go_num, hp1.out, by omega, hbx1, hb1⟩
      case measure => simp [intOf]; omega
    · have hjn : j = n := by omega
      subst hjn
      have hlen : ∀ (d : Nat) (ty : TypeId), (Builtin.len_ #[65] ty #[.map (some (w.heap.size + 1))]).run Try.prog (wr.drewN d) = .ok (.int .i64 (cntN N j)) (wr.drewN d) := fun d ty => PlAt.len (w := wr.drewN d) hpl.out ty
      have hcl := cntN_le N j
      have hR : Hid (((cntN N j : Int) == (j : Int)) = decide (cntN N j = j)) := by
        unfold Hid; rw [Bool.eq_iff_iff]; simp; omega
      go_wp2
      go_quiet (fail)
      go_wp2
      go_ret2
      rw [hR.out]
      exact ⟨_, rfl, hpl.out, by omega, below_drewN hb _⟩
end Go.Proofs.Ytecmoahadckomaa
