/- Maps of rows' arguments to places. -/
import Derived.Test.YtlhnffmbjejphaaGreatZValWRIsGreatW
import Derived.Test.YtlhnffmbjejphaaGreatZNodeArityStands
import Derived.Maps.OwnSet
import Derived.DeepKeys4
import Derived.WideKeyArgs
import Derived.Test.YtlhnffmbjejphaaGreatZSigMToSigA
namespace Go.Proofs.YtlhnffmbjejphaaGreat
open Go.RowKit Go.Maps

theorem k3_wf {x : Int} (h : R64 x) : (Lit.int .i64 x).wf = true := by
  obtain ⟨h0, h1⟩ := h
  exact WalkArith.wf_i64 (by omega)
theorem k3_laid : laidOutB Tryz.prog = true := by kernel_rfl
theorem k3_row : (51 : TypeId) < Tryz.prog.types.size := of_decide_eq_true (by kernel_rfl)
theorem k3_kt : Tryz.prog.keyTypeAt 3 51 = true := by kernel_rfl
theorem k3_m : 3 + 1 ≤ 10000 := by omega
theorem k3_key : WideMaps.KeyLaw Tryz.prog 51 := by
  refine deep_law_laid (m := 3) k3_laid ?_ k3_row ?_ ?_
  · exact k3_m
  · exact k3_kt
  · rw [Tryz.underlying51]
theorem k3_law : Keyed Tryz.prog 51 := Keyed.of_law k3_key
theorem k3_int (d : Nat) {x : Int} (h : R64 x) : Tryz.prog.keyLits (d + 1) 3 [.int .i64 x] = some [.int .i64 x] := by
  simp [Program.keyLits, Tryz.underlying3, k3_wf h]
theorem k3_cint : Tryz.prog.cellsOf 3 = 1 := by kernel_rfl
theorem k3_carr : Tryz.prog.cellsOf 51 = 3 := by kernel_rfl
theorem k3_arr (d : Nat) {a b c : Int} (ha : R64 a) (hb : R64 b) (hc : R64 c) : Tryz.prog.keyLits (d + 2) 51 [.int .i64 a, .int .i64 b, .int .i64 c] = some [.int .i64 a, .int .i64 b, .int .i64 c] := by
  unfold Program.keyLits
  rw [Tryz.underlying51]
  simp [k3_cint, k3_carr, List.range_succ, k3_int d ha, k3_int d hb, k3_int d hc]
noncomputable def k3L (k : K3) : Lit := (keyOf Tryz.prog 51 (k3V k)).getD (.bool true)
theorem key_k3 {k : K3} (h : K3R k) : keyOf Tryz.prog 51 (k3V k) = some (k3L k) := by
  have : ∃ l, keyOf Tryz.prog 51 (k3V k) = some l := by
    obtain ⟨d, hd⟩ : ∃ d, Tryz.prog.types.size + 1 = d + 2 := ⟨Tryz.prog.types.size - 1, by have : (2 : Nat) ≤ Tryz.prog.types.size := of_decide_eq_true (by kernel_rfl); omega⟩
    have hl := k3_arr d h.a0 h.a1 h.a2
    unfold keyOf
    rw [Tryz.underlying51, hd]
    have h1 : Tryz.prog.keyType 51 = true := by kernel_rfl
    have h2 : (k3V k).formed Tryz.prog 51 = true := by simp [k3V, Value.formed, Tryz.underlying51, k3_carr]
    have h3 : (k3V k).cells.toList = k3C k := rfl
    have hl' : Tryz.prog.keyLits (d + 2) 51 (k3C k) = some [.int .i64 k.a0, .int .i64 k.a1, .int .i64 k.a2] := hl
    simp only [h1, h2, h3, hl', Bool.and_self, if_true, Option.map_some]
    exact ⟨_, rfl⟩
  obtain ⟨l, hl⟩ := this
  unfold k3L
  rw [hl]; rfl
theorem k3L_inj {e f : K3} (he : K3R e) (hf : K3R f) (h : k3L e = k3L f) : e = f := by
  have h1 := key_k3 he
  have h2 := key_k3 hf
  rw [← h] at h2
  exact k3V_inj (k3_law.inj h1 h2)
/-- Block b of w is a map of arguments to places: S; c of them. -/
def RmAt (w : World) (b n : Nat) (S : K3 → Option Int) (c : Nat) : Prop :=
  ∃ D : DataW Unit, w.ownsMap Tryz.prog 51 (plainElem Tryz.prog 3) b n D ∧ Maps.size D = c ∧
    ∀ e, K3R e → Maps.has D (k3L e) = (S e).isSome ∧ D.atKey (k3L e) (.lit (.int .i64 0)) = .lit (.int .i64 ((S e).getD 0))
theorem zero_rint (w : World) : (zeroValue 3).run Tryz.prog w = .ok (.int .i64 0) w := by kernel_rfl
section
variable {w w' : World} {b n c : Nat} {S : K3 → Option Int}
theorem RmAt.made (w : World) : RmAt (w.alloc (.map #[] 0)) w.heap.size 0 (fun _ => none) 0 := ⟨.map [], World.ownsMap_made _ _ _ _, rfl, fun _ _ => ⟨rfl, rfl⟩⟩
theorem RmAt.lt (h : RmAt w b n S c) : b < w.heap.size := by obtain ⟨D, h, _⟩ := h; exact h.lt
theorem RmAt.kept {row : Option Nat} (h : RmAt w b n S c) (hg : w.grownBy w' row) (hne : some b ≠ row) : RmAt w' b n S c := by
  obtain ⟨D, h, hS⟩ := h
  exact ⟨D, h.kept hg hne, hS⟩
theorem RmAt.alloc (h : RmAt w b n S c) (o : Obj) : RmAt (w.alloc o) b n S c := h.kept (World.grownBy_alloc w o none) (by simp)
theorem RmAt.below {B : Nat} (h : RmAt w b n S c) (hb : Below B w w') (hB : b < B) : RmAt w' b n S c := by
  obtain ⟨D, ⟨es, clock, h1, h2⟩, hS⟩ := h
  exact ⟨D, ⟨es, clock, (hb.block b hB).trans h1, h2⟩, hS⟩
theorem RmAt.congr {S' : K3 → Option Int} {c' : Nat} (h : RmAt w b n S c) (e : ∀ x, K3R x → S x = S' x) (ec : c = c') : RmAt w b n S' c' := by
  obtain ⟨D, h, hc, hS⟩ := h
  exact ⟨D, h, hc.trans ec, fun x hx => by rw [← e x hx]; exact hS x hx⟩
theorem RmAt.look (h : RmAt w b n S c) {e : K3} (he : K3R e) : (Instr.lookup 107 (.map (some b)) (k3V e) true).run Tryz.prog w = .ok (.tuple #[.int .i64 ((S e).getD 0), .bool (S e).isSome]) w := by
  obtain ⟨D, ho, hc, hS⟩ := h
  obtain ⟨v, ps, hrun, hv⟩ := ho.look_ok k3_law Tryz.underlying107 (zero_rint w) (plainElem_int Tryz.underlying3 (by decide)) (key_k3 he)
  obtain ⟨y, rfl, h2, _⟩ := plainElem_int_inv Tryz.underlying3 hv
  obtain ⟨s1, s2⟩ := hS e he
  rw [s2] at h2
  simp only [Prod.mk.injEq, DataW.lit.injEq, Lit.int.injEq, true_and] at h2
  rw [hrun, s1, h2.1]
theorem RmAt.len (h : RmAt w b n S c) (ty : TypeId) : (Builtin.len_ #[107] ty #[.map (some b)]).run Tryz.prog w = .ok (.int .i64 c) w := by
  obtain ⟨D, ho, rfl, hS⟩ := h
  exact ho.len Tryz.underlying107 ty
theorem RmAt.store (h : RmAt w b n S c) (hn : n < maxLen) {e : K3} (he : K3R e) {k : Int} (hk : R64 k) :
    ∃ w', (Instr.mapUpdate 107 (.map (some b)) (k3V e) (.int .i64 k)).run Tryz.prog w = .ok () w' ∧ RmAt w' b (n + 1) (fun f => if f = e then some k else S f) (if (S e).isSome then c else c + 1) ∧ w.grownBy w' (some b) := by
  obtain ⟨D, ho, hc, hS⟩ := h
  have hl := key_k3 he
  have hd := (hS e he).1
  have hne : ∀ f, K3R f → f ≠ e → k3L f ≠ k3L e := fun f hf ef h => ef (k3L_inj hf he h)
  generalize k3L e = l at hl hd hne
  obtain ⟨w', hrun, h1, h2⟩ := ho.update k3_law Tryz.underlying107 hn hl (plainElem_int Tryz.underlying3 (k3_wf hk))
  have hkl : WideAt.IsKeyLit l := k3_law.key hl
  have hlq := key_k3 he
  rw [hl] at hlq
  injection hlq with hlq
  refine ⟨w', hrun, ⟨_, h1, ?_, fun f hf => ?_⟩, h2⟩
  · rw [size_put (ho.tidy k3_law), hd, hc]
  · by_cases ef : f = e
    · subst ef
      simp only [if_true]
      rw [← hlq, has_put_same ho.isMap hkl, atKey_put_same ho.isMap hkl]
      exact ⟨rfl, rfl⟩
    · simp only [ef, if_false]
      rw [has_put_other (hne f hf ef), atKey_put_other (hne f hf ef)]
      exact hS f hf
end
theorem wpList_rplace {w : World} {ops : Array Oper} {rest : List Oper} {o : Oper} {a : Act} {Q : Exit → Act → World → Prop} (hg : o.guard = none) (m x v : Operand) (hop : o.op = Op.mapUpdate 107 m x v)
    (b n : Nat) (S : K3 → Option Int) (c : Nat) (hm : a.eval m = .map (some b)) (h : RmAt w b n S c) (hn : n < maxLen) (e : K3) (k : Int) (hx : a.eval x = k3V e) (hv : a.eval v = .int .i64 k) (he : K3R e) (hk : R64 k)
    (hK : ∀ w', RmAt w' b (n + 1) (fun f => if f = e then some k else S f) (if (S e).isSome then c else c + 1) → w.grownBy w' (some b) → wpList Tryz.prog ops Q rest (a.put o.dst undef) w') :
    wpList Tryz.prog ops Q (o :: rest) a w := by
  refine wpList_plain hg fun K' hK' => ?_
  obtain ⟨w', hrun, r1, r2⟩ := h.store hn he hk
  unfold Oper.wp
  simp [execOp, hop, hm, hx, hv, hrun, Result.andThen]
  exact hK' _ _ (hK w' r1 r2)
end Go.Proofs.YtlhnffmbjejphaaGreat

namespace Go.Proofs.YtlhnffmbjejphaaGreat
open Go.RowKit Go.Maps

theorem wpList_rplaceN {w : World} {ops : Array Oper} {rest : List Oper} {o : Oper} {a : Act} {Q : Exit → Act → World → Prop} (hg : o.guard = none) (m x v : Operand) (hop : o.op = Op.mapUpdate 107 m x v)
    (b j : Nat) (R : Nat → Rw) (hm : a.eval m = .map (some b)) (h : RmAt w b j (placeR R j) (cntR R j)) (hj : j < 1000000) (hx : a.eval x = k3V (R j).key) (hv : a.eval v = .int .i64 j) (he : K3R (R j).key)
    (hK : ∀ w', Hid (RmAt w' b (j + 1) (placeR R (j + 1)) (cntR R (j + 1))) → w.grownBy w' (some b) → wpList Tryz.prog ops Q rest (a.put o.dst undef) w') :
    wpList Tryz.prog ops Q (o :: rest) a w :=
  wpList_rplace hg m x v hop b j _ _ hm h (by unfold maxLen; omega) (R j).key j hx hv he (by unfold R64; omega) fun w' h1 h2 => hK w' (h1.congr (fun f _ => by rw [placeR]) (by rw [cntR])) h2
theorem run_rmap0 (w : World) : (Instr.makeMap 107 none).run Tryz.prog w = .ok (.map (some w.heap.size)) (w.alloc (.map #[] 0)) := by
  simp [Instr.makeMap]

set_option maxHeartbeats 400000 in
theorem rows_any (f : Fv) (v0 v1 : Value) (fb fo : Nat) (w : World) (c0 : w.cell? ⟨fb, fo, none⟩ = some v0) (hfb : fb < w.heap.size) (hf : FvIs w f v0 v1) (hn : f.nr ≤ 1000000) :
    Calls Tryz.prog 47 #[.pointer (some ⟨fb, fo, none⟩)] w fun e w' => ∃ b, e = .returned (.tuple #[.map (some b), .bool (decide (cntR f.R f.nr = f.nr))]) ∧ RmAt w' b f.nr (placeR f.R f.nr) (cntR f.R f.nr) ∧ w.heap.size ≤ b ∧ Below w.heap.size w w' := by
  have hmk := run_rmap0
  obtain ⟨A, c, rfl, hnc, hc⟩ := hf.1
  have hc' := Lib.hid hc
  generalize hN : f.nr = n at *
  have hN' := Lib.hid hN
  clear hc hf hN
  go_enter Tryz.func47, Tryz.ntmps47
  go_wp2
  clear hmk
  go_loopw [5, 12] (fun _ i wr => ∃ j : Nat, j ≤ n ∧ i = .int .i64 j ∧ Hid (RmAt wr w.heap.size j (placeR f.R j) (cntR f.R j)) ∧ Below w.heap.size w wr) (fun _ i _ => n - (intOf i).toNat)
  case atStart =>
    exact ⟨0, Nat.zero_le _, rfl, (RmAt.made w).congr (S' := placeR f.R 0) (c' := cntR f.R 0) (fun _ _ => rfl) rfl, (Below.refl _ _).alloc (Nat.le_refl _) _⟩
  case round =>
    obtain ⟨j, hj, rfl, hpl, hb⟩ := hrel
    have cj := (hb.cell (p := ⟨fb, fo, none⟩) hfb).trans c0
    by_cases hlt : j < n
    · have i1 : decide ((j : Int) < (n : Int)) = true := decide_eq_true (by omega)
      obtain ⟨b, o, rfl, hbl, hcs⟩ := hc'.out (by omega)
      obtain ⟨⟨q0, q1, q2, q3⟩, hR⟩ := RwIn.stays f.R (hcs j hlt) hbl (hb.mono (Nat.le_refl _))
      have hR' := Lib.hid hR.key
      clear hcs
      go_wp2_with (at_mapUpdate; refine wpList_rplaceN rfl _ _ _ rfl w.heap.size j f.R rfl hpl.out (by omega) rfl rfl hR'.out ?_)
      intro w1 hp1 hg1
      have hb1 : Below w.heap.size w w1 := hb.grown hg1 hb.size (fun k h => by injection h with h; omega)
      clear hg1 hpl q0 q1 q2 q3
      go_wp2
      go_roundw
      case rel => exact ⟨j + 1, by omega, by go_num, hp1.out, hb1⟩
      case measure => simp [intOf]; omega
    · have i1 : decide ((j : Int) < (n : Int)) = false := decide_eq_false (by omega)
      obtain rfl : j = n := by omega
      have hlen : ∀ (d : Nat) (ty : TypeId), (Builtin.len_ #[107] ty #[.map (some w.heap.size)]).run Tryz.prog (wr.drewN d) = .ok (.int .i64 (cntR f.R j)) (wr.drewN d) := fun d ty => RmAt.len (w := wr.drewN d) hpl.out ty
      have hcl := cntR_le f.R j
      have hR : Hid (((cntR f.R j : Int) == (j : Int)) = decide (cntR f.R j = j)) := by
        unfold Hid; rw [Bool.eq_iff_iff]; simp; omega
      go_wp2
      go_quiet (fail)
      go_wp2
      go_ret2
      rw [hR.out]
      exact ⟨_, rfl, hpl.out, by omega, below_drewN hb _⟩
end Go.Proofs.YtlhnffmbjejphaaGreat

namespace Go.Proofs.YtlhnffmbjejphaaGreat
open Go.RowKit

theorem May1_any (n : Int) (w : World) (h : R64 n) :
    Calls Tryz.prog 46 #[.int .i64 n] w fun e w' => e = .returned (.bool (!sizeB n)) ∧ w = w' := by
  obtain ⟨h0, h1⟩ := h
  go_enter Tryz.func46, Tryz.ntmps46
  by_cases g : n < 1
  · have d : decide (n < 1) = true := decide_eq_true g
    have hR : Hid (sizeB n = false) := decide_eq_false (by omega)
    clear g
    go_wp2
    go_ret
    exact ⟨by rw [hR.out]; rfl, rfl⟩
  · have d : decide (n < 1) = false := decide_eq_false g
    by_cases g2 : 1000 < n
    · have d2 : decide (1000 < n) = true := decide_eq_true g2
      have hR : Hid (sizeB n = false) := decide_eq_false (by omega)
      clear g g2
      go_wp2
      go_ret
      exact ⟨by rw [hR.out]; rfl, rfl⟩
    · have d2 : decide (1000 < n) = false := decide_eq_false g2
      have hR : Hid (sizeB n = true) := decide_eq_true (by omega)
      clear g g2
      go_wp2
      go_ret
      exact ⟨by rw [hR.out]; rfl, rfl⟩
theorem sizesIdx_any (u : Value) (k : Nat) (f : Nat → Int) (w : World) (hu : IntsAt w u k f) :
    Calls Tryz.prog 102 #[u, .func (.func 46) #[] #[]] w fun e w' =>
      (∃ x : Int, e = .returned (.int .i64 x) ∧ decide (0 ≤ x) = !upTo k fun i => sizeB (f i)) ∧ w = w' := by
  obtain ⟨A2, c2, rfl, hk, hr2, hc2⟩ := hu
  have hc2' := Lib.hid hc2
  have hr2' := Lib.hid hr2
  have hno := Lib.hid fun j (hj : j < k) h => upTo_no (p := fun i => sizeB (f i)) hj h
  have hyes := Lib.hid fun h => upTo_yes (n := k) (p := fun i => sizeB (f i)) h
  clear hc2 hr2
  go_enter Tryz.func102, Tryz.ntmps102
  go_wp2
  go_loop [8] (fun i => ∃ j : Nat, j ≤ k ∧ i = .int .i64 j ∧ Hid (∀ r, r < j → sizeB (f r) = true)) (fun i => k - (intOf i).toNat)
  case atStart => exact ⟨0, Nat.zero_le _, rfl, fun r h => absurd h (Nat.not_lt_zero _)⟩
  case round =>
    obtain ⟨j, hj, rfl, hs⟩ := hrel
    by_cases hlt : j < k
    · obtain ⟨b2, o2, rfl, hbl2, hcs2⟩ := hc2'.out (by omega)
      have q0 := hcs2 j hlt
      have hr := hr2'.out j hlt
      clear hcs2
      cases hmy : sizeB (f j) with
      | false =>
        have hmy' := Lib.hid hmy
        clear hmy
        go_wp2_with fail
        refine (May1_any _ _ hr).mono ?_
        rintro e w' ⟨rfl, rfl⟩
        rw [hmy'.out]
        go_wp2
        go_ret
        refine ⟨⟨j, rfl, ?_⟩, rfl⟩
        rw [hno.out j hlt hmy'.out]
        simp
      | true =>
        have hmy' := Lib.hid hmy
        clear hmy
        go_wp2_with fail
        refine (May1_any _ _ hr).mono ?_
        rintro e w' ⟨rfl, rfl⟩
        rw [hmy'.out]
        go_wp2
        go_round
        case rel => exact ⟨j + 1, by omega, by go_num, fun r h => by
          by_cases e : r = j
          · subst e; exact hmy'.out
          · exact hs.out r (by omega)⟩
        case measure => simp [intOf]; omega
    · go_wp2
      go_ret
      refine ⟨⟨-1, rfl, ?_⟩, rfl⟩
      rw [hyes.out fun i hi => hs.out i (by omega)]; rfl
theorem sizes_any (u : Value) (k : Nat) (f : Nat → Int) (w : World) (hu : IntsAt w u k f) :
    Calls Tryz.prog 45 #[u, .func (.func 46) #[] #[]] w fun e w' => e = .returned (.bool (!upTo k fun i => sizeB (f i))) ∧ w = w' := by
  generalize hq : (!upTo k fun i => sizeB (f i)) = q
  have hq' := Lib.hid hq
  clear hq
  go_enter Tryz.func45, Tryz.ntmps45
  go_wp2_with fail
  refine (sizesIdx_any u k f w hu).mono ?_
  rintro e w1 ⟨⟨x, rfl, hx⟩, rfl⟩
  rw [hq'.out] at hx
  have hx' := Lib.hid hx
  clear hx
  go_wp2
  go_ret
  exact ⟨ret_bool hx'.out, rfl⟩
end Go.Proofs.YtlhnffmbjejphaaGreat
