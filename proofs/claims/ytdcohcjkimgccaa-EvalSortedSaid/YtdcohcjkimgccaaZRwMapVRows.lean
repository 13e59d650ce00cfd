/- Maps of rows' arguments to places. -/
import Derived.Test.YtdcohcjkimgccaaZNumWorldM
import Derived.Test.YtdcohcjkimgccaaZNode
import Derived.Maps.OwnSet
import Derived.DeepKeys4
import Derived.WideKeyArgs
namespace Go.Proofs.Ytdcohcjkimgccaa
open Go.RowKit Go.Maps

structure K3 where
  a0 : Int
  a1 : Int
  a2 : Int
deriving DecidableEq
structure K3R (k : K3) : Prop where
  a0 : R64 k.a0
  a1 : R64 k.a1
  a2 : R64 k.a2
def Rw.key (r : Rw) : K3 := ⟨r.a0, r.a1, r.a2⟩
theorem RwR.key {r : Rw} (h : RwR r) : K3R r.key := ⟨h.a0, h.a1, h.a2⟩
def k3C (k : K3) : List Value := [.int .i64 k.a0, .int .i64 k.a1, .int .i64 k.a2]
def k3V (k : K3) : Value := .agg #[.int .i64 k.a0, .int .i64 k.a1, .int .i64 k.a2]
theorem k3_wf {x : Int} (h : R64 x) : (Lit.int .i64 x).wf = true := by
  obtain ⟨h0, h1⟩ := h
  exact WalkArith.wf_i64 (by omega)
theorem k3_laid : laidOutB Try.prog = true := by kernel_rfl
theorem k3_row : (37 : TypeId) < Try.prog.types.size := of_decide_eq_true (by kernel_rfl)
theorem k3_kt : Try.prog.keyTypeAt 3 37 = true := by kernel_rfl
theorem k3_m : 3 + 1 ≤ 10000 := by omega
theorem k3_key : WideMaps.KeyLaw Try.prog 37 := by
  refine deep_law_laid (m := 3) k3_laid ?_ k3_row ?_ ?_
  · exact k3_m
  · exact k3_kt
  · rw [Try.underlying37]
theorem k3_law : Keyed Try.prog 37 := Keyed.of_law k3_key
theorem k3_int (d : Nat) {x : Int} (h : R64 x) : Try.prog.keyLits (d + 1) 3 [.int .i64 x] = some [.int .i64 x] := by
  simp [Program.keyLits, Try.underlying3, k3_wf h]
theorem k3_cint : Try.prog.cellsOf 3 = 1 := by kernel_rfl
theorem k3_carr : Try.prog.cellsOf 37 = 3 := by kernel_rfl
theorem k3_arr (d : Nat) {a b c : Int} (ha : R64 a) (hb : R64 b) (hc : R64 c) : Try.prog.keyLits (d + 2) 37 [.int .i64 a, .int .i64 b, .int .i64 c] = some [.int .i64 a, .int .i64 b, .int .i64 c] := by
  unfold Program.keyLits
  rw [Try.underlying37]
  simp [k3_cint, k3_carr, List.range_succ, k3_int d ha, k3_int d hb, k3_int d hc]
noncomputable def k3L (k : K3) : Lit := (keyOf Try.prog 37 (k3V k)).getD (.bool true)
theorem key_k3 {k : K3} (h : K3R k) : keyOf Try.prog 37 (k3V k) = some (k3L k) := by
  have : ∃ l, keyOf Try.prog 37 (k3V k) = some l := by
    obtain ⟨d, hd⟩ : ∃ d, Try.prog.types.size + 1 = d + 2 := ⟨Try.prog.types.size - 1, by have : (2 : Nat) ≤ Try.prog.types.size := of_decide_eq_true (by kernel_rfl); omega⟩
    have hl := k3_arr d h.a0 h.a1 h.a2
    unfold keyOf
    rw [Try.underlying37, hd]
    have h1 : Try.prog.keyType 37 = true := by kernel_rfl
    have h2 : (k3V k).formed Try.prog 37 = true := by simp [k3V, Value.formed, Try.underlying37, k3_carr]
    have h3 : (k3V k).cells.toList = k3C k := rfl
    have hl' : Try.prog.keyLits (d + 2) 37 (k3C k) = some [.int .i64 k.a0, .int .i64 k.a1, .int .i64 k.a2] := hl
    simp only [h1, h2, h3, hl', Bool.and_self, if_true, Option.map_some]
    exact ⟨_, rfl⟩
  obtain ⟨l, hl⟩ := this
  unfold k3L
  rw [hl]; rfl
theorem k3V_inj {e f : K3} (h : k3V e = k3V f) : e = f := by
  obtain ⟨x0, x1, x2⟩ := e
  obtain ⟨y0, y1, y2⟩ := f
  simp [k3V] at h
  simp [h]
theorem k3L_inj {e f : K3} (he : K3R e) (hf : K3R f) (h : k3L e = k3L f) : e = f := by
  have h1 := key_k3 he
  have h2 := key_k3 hf
  rw [← h] at h2
  exact k3V_inj (k3_law.inj h1 h2)
/-- Block b of w is a map of arguments to places: S; c of them. -/
def RmAt (w : World) (b n : Nat) (S : K3 → Option Int) (c : Nat) : Prop :=
  ∃ D : DataW Unit, w.ownsMap Try.prog 37 (plainElem Try.prog 3) b n D ∧ Maps.size D = c ∧
    ∀ e, K3R e → Maps.has D (k3L e) = (S e).isSome ∧ D.atKey (k3L e) (.lit (.int .i64 0)) = .lit (.int .i64 ((S e).getD 0))
theorem zero_rint (w : World) : (zeroValue 3).run Try.prog w = .ok (.int .i64 0) w := by kernel_rfl
section
variable {w w' : World} {b n c : Nat} {S : K3 → Option Int}
theorem RmAt.made (w : World) : RmAt (w.alloc (.map #[] 0)) w.heap.size 0 (fun _ => none) 0 := ⟨.map [], World.ownsMap_made _ _ _ _, rfl, fun _ _ => ⟨rfl, rfl⟩⟩
theorem RmAt.lt (h : RmAt w b n S c) : b < w.heap.size := by obtain ⟨D, h, _⟩ := h; exact h.lt
theorem RmAt.kept {row : Option Nat} (h : RmAt w b n S c) (hg : w.grownBy w' row) (hne : some b ≠ row) : RmAt w' b n S c := by
  obtain ⟨D, h, hS⟩ := h
  exact ⟨D, h.kept hg hne, hS⟩
theorem RmAt.alloc (h : RmAt w b n S c) (o : Obj) : RmAt (w.alloc o) b n S c := h.kept (World.grownBy_alloc w o none) (by simp)
theorem RmAt.below {B : Nat} (h : RmAt w b n S c) (hb : Below B w w') (hB : b < B) : RmAt w' b n S c := by
  obtain ⟨D, ⟨es, clock, h1, h2⟩, hS⟩ := h
  exact ⟨D, ⟨es, clock, (hb.block b hB).trans h1, h2⟩, hS⟩
theorem RmAt.congr {S' : K3 → Option Int} {c' : Nat} (h : RmAt w b n S c) (e : ∀ x, K3R x → S x = S' x) (ec : c = c') : RmAt w b n S' c' := by
  obtain ⟨D, h, hc, hS⟩ := h
  exact ⟨D, h, hc.trans ec, fun x hx => by rw [← e x hx]; exact hS x hx⟩
theorem RmAt.look (h : RmAt w b n S c) {e : K3} (he : K3R e) : (Instr.lookup 132 (.map (some b)) (k3V e) true).run Try.prog w = .ok (.tuple #[.int .i64 ((S e).getD 0), .bool (S e).isSome]) w := by
  obtain ⟨D, ho, hc, hS⟩ := h
  obtain ⟨v, ps, hrun, hv⟩ := ho.look_ok k3_law Try.underlying132 (zero_rint w) (plainElem_int Try.underlying3 (by decide)) (key_k3 he)
  obtain ⟨y, rfl, h2, _⟩ := plainElem_int_inv Try.underlying3 hv
  obtain ⟨s1, s2⟩ := hS e he
  rw [s2] at h2
  simp only [Prod.mk.injEq, DataW.lit.injEq, Lit.int.injEq, true_and] at h2
  rw [hrun, s1, h2.1]
theorem RmAt.len (h : RmAt w b n S c) (ty : TypeId) : (Builtin.len_ #[132] ty #[.map (some b)]).run Try.prog w = .ok (.int .i64 c) w := by
  obtain ⟨D, ho, rfl, hS⟩ := h
  exact ho.len Try.underlying132 ty
theorem RmAt.store (h : RmAt w b n S c) (hn : n < maxLen) {e : K3} (he : K3R e) {k : Int} (hk : R64 k) :
    ∃ w', (Instr.mapUpdate 132 (.map (some b)) (k3V e) (.int .i64 k)).run Try.prog w = .ok () w' ∧ RmAt w' b (n + 1) (fun f => if f = e then some k else S f) (if (S e).isSome then c else c + 1) ∧ w.grownBy w' (some b) := by
  obtain ⟨D, ho, hc, hS⟩ := h
  have hl := key_k3 he
  have hd := (hS e he).1
  have hne : ∀ f, K3R f → f ≠ e → k3L f ≠ k3L e := fun f hf ef h => ef (k3L_inj hf he h)
  generalize k3L e = l at hl hd hne
  obtain ⟨w', hrun, h1, h2⟩ := ho.update k3_law Try.underlying132 hn hl (plainElem_int Try.underlying3 (k3_wf hk))
  have hkl : WideAt.IsKeyLit l := k3_law.key hl
  have hlq := key_k3 he
  rw [hl] at hlq
  injection hlq with hlq
  refine ⟨w', hrun, ⟨_, h1, ?_, fun f hf => ?_⟩, h2⟩
  · rw [size_put (ho.tidy k3_law), hd, hc]
  · by_cases ef : f = e
    · subst ef
      simp only [if_true]
      rw [← hlq, has_put_same ho.isMap hkl, atKey_put_same ho.isMap hkl]
      exact ⟨rfl, rfl⟩
    · simp only [ef, if_false]
      rw [has_put_other (hne f hf ef), atKey_put_other (hne f hf ef)]
      exact hS f hf
end
theorem wpList_rplace {w : World} {ops : Array Oper} {rest : List Oper} {o : Oper} {a : Act} {Q : Exit → Act → World → Prop} (hg : o.guard = none) (m x v : Operand) (hop : o.op = Op.mapUpdate 132 m x v)
    (b n : Nat) (S : K3 → Option Int) (c : Nat) (hm : a.eval m = .map (some b)) (h : RmAt w b n S c) (hn : n < maxLen) (e : K3) (k : Int) (hx : a.eval x = k3V e) (hv : a.eval v = .int .i64 k) (he : K3R e) (hk : R64 k)
    (hK : ∀ w', RmAt w' b (n + 1) (fun f => if f = e then some k else S f) (if (S e).isSome then c else c + 1) → w.grownBy w' (some b) → wpList Try.prog ops Q rest (a.put o.dst undef) w') :
    wpList Try.prog ops Q (o :: rest) a w := by
  refine wpList_plain hg fun K' hK' => ?_
  obtain ⟨w', hrun, r1, r2⟩ := h.store hn he hk
  unfold Oper.wp
  simp [execOp, hop, hm, hx, hv, hrun, Result.andThen]
  exact hK' _ _ (hK w' r1 r2)
end Go.Proofs.Ytdcohcjkimgccaa

namespace Go.Proofs.Ytdcohcjkimgccaa
open Go.RowKit Go.Maps

def placeR (R : Nat → Rw) : Nat → K3 → Option Int
  | 0, _ => none
  | k + 1, e => if e = (R k).key then some (k : Int) else placeR R k e
def cntR (R : Nat → Rw) : Nat → Nat
  | 0 => 0
  | k + 1 => if (placeR R k (R k).key).isSome then cntR R k else cntR R k + 1
theorem cntR_le (R : Nat → Rw) (k : Nat) : cntR R k ≤ k := by
  induction k with
  | zero => exact Nat.le_refl _
  | succ k ih => unfold cntR; split <;> omega
theorem placeR_none (R : Nat → Rw) (k : Nat) (e : K3) : placeR R k e = none ↔ ∀ i, i < k → (R i).key ≠ e := by
  induction k with
  | zero => simp [placeR]
  | succ k ih =>
    unfold placeR
    by_cases h : e = (R k).key
    · rw [if_pos h]
      constructor
      · intro h'; cases h'
      · intro h'; exact absurd h.symm (h' k (by omega))
    · rw [if_neg h, ih]
      constructor
      · intro h' i hi
        by_cases ei : i = k
        · subst ei; exact fun h'' => h h''.symm
        · exact h' i (by omega)
      · exact fun h' i hi => h' i (by omega)
theorem placeR_some (R : Nat → Rw) (k : Nat) (e : K3) (x : Int) (h : placeR R k e = some x) : ∃ i, i < k ∧ (R i).key = e ∧ x = i := by
  induction k with
  | zero => cases h
  | succ k ih =>
    unfold placeR at h
    split at h
    · next h' => injection h with h; exact ⟨k, by omega, h'.symm, h.symm⟩
    · obtain ⟨i, h1, h2, h3⟩ := ih h
      exact ⟨i, by omega, h2, h3⟩
def OnceR (R : Nat → Rw) (n : Nat) : Prop := ∀ i j, i < j → j < n → (R i).key ≠ (R j).key
theorem cntR_iff (R : Nat → Rw) (k : Nat) : cntR R k = k ↔ OnceR R k := by
  induction k with
  | zero => exact ⟨fun _ i j h1 h2 => by omega, fun _ => rfl⟩
  | succ k ih =>
    have hle := cntR_le R k
    unfold cntR
    cases hp : placeR R k (R k).key with
    | some x =>
      simp only [Option.isSome_some, if_true]
      constructor
      · intro h; omega
      · intro h
        obtain ⟨i, h1, h2, _⟩ := placeR_some R k _ x hp
        exact absurd h2 (h i k h1 (by omega))
    | none =>
      simp only [Option.isSome_none, Bool.false_eq_true, if_false]
      have hno := (placeR_none R k _).1 hp
      constructor
      · intro h i j h1 h2
        by_cases e : j = k
        · subst e; exact hno i h1
        · exact ih.1 (by omega) i j h1 (by omega)
      · intro h
        rw [ih.2 fun i j h1 h2 => h i j h1 (by omega)]

theorem wpList_rplaceN {w : World} {ops : Array Oper} {rest : List Oper} {o : Oper} {a : Act} {Q : Exit → Act → World → Prop} (hg : o.guard = none) (m x v : Operand) (hop : o.op = Op.mapUpdate 132 m x v)
    (b j : Nat) (R : Nat → Rw) (hm : a.eval m = .map (some b)) (h : RmAt w b j (placeR R j) (cntR R j)) (hj : j < 1000000) (hx : a.eval x = k3V (R j).key) (hv : a.eval v = .int .i64 j) (he : K3R (R j).key)
    (hK : ∀ w', Hid (RmAt w' b (j + 1) (placeR R (j + 1)) (cntR R (j + 1))) → w.grownBy w' (some b) → wpList Try.prog ops Q rest (a.put o.dst undef) w') :
    wpList Try.prog ops Q (o :: rest) a w :=
  wpList_rplace hg m x v hop b j _ _ hm h (by unfold maxLen; omega) (R j).key j hx hv he (by unfold R64; omega) fun w' h1 h2 => hK w' (h1.congr (fun f _ => by rw [placeR]) (by rw [cntR])) h2
theorem run_rmap0 (w : World) : (Instr.makeMap 132 none).run Try.prog w = .ok (.map (some w.heap.size)) (w.alloc (.map #[] 0)) := by
  simp [Instr.makeMap]

set_option maxHeartbeats 400000 in
theorem rows_any (f : Fv) (v0 v1 : Value) (fb fo : Nat) (w : World) (c0 : w.cell? ⟨fb, fo, none⟩ = some v0) (hfb : fb < w.heap.size) (hf : FvIs w f v0 v1) (hn : f.nr ≤ 1000000) :
    Calls Try.prog 81 #[.pointer (some ⟨fb, fo, none⟩)] w fun e w' => ∃ b, e = .returned (.tuple #[.map (some b), .bool (decide (cntR f.R f.nr = f.nr))]) ∧ RmAt w' b f.nr (placeR f.R f.nr) (cntR f.R f.nr) ∧ w.heap.size ≤ b ∧ Below w.heap.size w w' := by
  have hmk := run_rmap0
  obtain ⟨A, c, rfl, hnc, hc⟩ := hf.1
  have hc' := Lib.hid hc
  generalize hN : f.nr = n at *
  have hN' := Lib.hid hN
  clear hc hf hN
  go_enter Try.func81, Try.ntmps81
  go_wp2
  clear hmk
  go_loopw [5, 12] (fun _ i wr => ∃ j : Nat, j ≤ n ∧ i = .int .i64 j ∧ Hid (RmAt wr w.heap.size j (placeR f.R j) (cntR f.R j)) ∧ Below w.heap.size w wr) (fun _ i _ => n - (intOf i).toNat)
  case atStart =>
    exact ⟨0, Nat.zero_le _, rfl, (RmAt.made w).congr (S' := placeR f.R 0) (c' := cntR f.R 0) (fun _ _ => rfl) rfl, (Below.refl _ _).alloc (Nat.le_refl _) _⟩
  case round =>
    obtain ⟨j, hj, rfl, hpl, hb⟩ := hrel
    have cj := (hb.cell (p := ⟨fb, fo, none⟩) hfb).trans c0
    by_cases hlt : j < n
    · have i1 : decide ((j : Int) < (n : Int)) = true := decide_eq_true (by omega)
      obtain ⟨b, o, rfl, hbl, hcs⟩ := hc'.out (by omega)
      obtain ⟨⟨q0, q1, q2, q3⟩, hR⟩ := RwIn.stays f.R (hcs j hlt) hbl (hb.mono (Nat.le_refl _))
      have hR' := Lib.hid hR.key
      clear hcs
      go_wp2_with (at_mapUpdate; refine wpList_rplaceN rfl _ _ _ rfl w.heap.size j f.R rfl hpl.out (by omega) rfl rfl hR'.out ?_)
      intro w1 hp1 hg1
      have hb1 : Below w.heap.size w w1 := hb.grown hg1 hb.size (fun k h => by injection h with h; omega)
      clear hg1 hpl q0 q1 q2 q3
      go_wp2
      go_roundw
      case rel => exact ⟨j + 1, by omega, by go_num, hp1.out, hb1⟩
      case measure => simp [intOf]; omega
    · have i1 : decide ((j : Int) < (n : Int)) = false := decide_eq_false (by omega)
      obtain rfl : j = n := by omega
      have hlen : ∀ (d : Nat) (ty : TypeId), (Builtin.len_ #[132] ty #[.map (some w.heap.size)]).run Try.prog (wr.drewN d) = .ok (.int .i64 (cntR f.R j)) (wr.drewN d) := fun d ty => RmAt.len (w := wr.drewN d) hpl.out ty
      have hcl := cntR_le f.R j
      have hR : Hid (((cntR f.R j : Int) == (j : Int)) = decide (cntR f.R j = j)) := by
        unfold Hid; rw [Bool.eq_iff_iff]; simp; omega
      go_wp2
      go_quiet (fail)
      go_wp2
      go_ret2
      rw [hR.out]
      exact ⟨_, rfl, hpl.out, by omega, below_drewN hb _⟩
end Go.Proofs.Ytdcohcjkimgccaa
