/- eval.Value. -/
import Derived.Test.YtlhnffmbjejphaaGreatZVals
import Derived.Test.YtlhnffmbjejphaaGreatZTermENewY
namespace Go.Proofs.YtlhnffmbjejphaaGreat
open Go.RowKit
set_option maxRecDepth 100000

set_option maxHeartbeats 1000000 in
theorem EValue_any (sv fv mv zv wv tv : Value) (g : Sg) (W : Wd) (n : Nat) (N : Nat → Nd) (id : Int) (w : World) (hG : SgAt w sv fv mv g) (hf : FewG g) (hW : WdAt w zv wv W) (hw : FewW W) (hv : NdsAt w tv n N) (hn : n ≤ 1000000) :
    Calls Tryz.prog 12 #[.agg #[sv, fv, mv], .agg #[zv, wv], .agg #[tv], .int .i64 id] w fun z w' => z = .returned (.tuple #[.int .i64 (valueT g W n N id).1, .int .i64 (valueT g W n N id).2]) ∧ Below w.heap.size w w' := by
  have hx := Lib.hid ((((Bx.nil w).row #[sv, fv, mv] 26).row #[zv, wv] 30).row #[tv] 33)
  have hV := Lib.hid (Values_any sv fv mv zv wv tv g W n N _ (hG.below hx.out.bel) hf (hW.below hx.out.bel) hw (hv.below hx.out.bel) hn)
  have hR : Hid (valueT g W n N id = if valsE g W n N ≠ 0 then (0, valsE g W n N) else if id < 0 then (0, 2) else if (n : Int) ≤ id then (0, 2) else if (evF g W N n id.toNat).2 = true then (0, 10) else ((evF g W N n id.toNat).1, 0)) := rfl
  obtain ⟨A, c, rfl, -, -⟩ := hG.1
  obtain ⟨FA, fc, rfl, -, -⟩ := hG.2.1
  obtain ⟨MA, mc, rfl, -, -⟩ := hG.2.2
  obtain ⟨ZA, zc, rfl, -, -, -⟩ := hW.1
  obtain ⟨WA, wq, rfl, -, -⟩ := hW.2
  obtain ⟨TA, tc, rfl, -, -, -⟩ := hv
  clear hG hf hW hw
  go_enter Tryz.func12, Tryz.ntmps12
  go_wp2_with fail
  refine hV.out.mono ?_
  unfold ValsP
  rintro e w1 ⟨⟨vl, vo, rfl, hok, hbad⟩, hb1⟩
  have hx1 := Lib.hid (hx.out.step hb1)
  have hcs := valsE_cases g W n N
  generalize valsE g W n N = er at *
  by_cases he : er = 0
  case neg =>
    obtain ⟨rfl, rfl⟩ := hbad he
    have d1 : (er != 0) = true := by simpa using he
    have hF : Hid (valueT g W n N id = (0, er)) := by unfold Hid; rw [hR.out, if_pos he]
    clear he hok hbad hcs
    go_wp2_with fail
    exact bodyPost_ret (results_tmp2 rfl _ _ _) rfl ⟨by rw [hF.out]; rfl, hx1.out.bel⟩
  subst he
  obtain ⟨hl, ho, -⟩ := hok rfl
  obtain ⟨LA, lc, rfl, -, -, hlc⟩ := hl
  obtain ⟨OA, oc, rfl, hoc⟩ := ho
  have hlc' := Lib.hid hlc
  have hoc' := Lib.hid hoc
  have hR1 : Hid (valueT g W n N id = if id < 0 then (0, 2) else if (n : Int) ≤ id then (0, 2) else if (evF g W N n id.toNat).2 = true then (0, 10) else ((evF g W N n id.toNat).1, 0)) := by unfold Hid; rw [hR.out, if_neg (fun h => h rfl)]
  clear hlc hoc hbad hok hcs hb1 hV hx
  by_cases h1 : id < 0
  · have d1 : decide (id < 0) = true := decide_eq_true h1
    have hF : Hid (valueT g W n N id = (0, 2)) := by unfold Hid; rw [hR1.out, if_pos h1]
    clear h1
    go_wp2_with fail
    exact bodyPost_ret (results_tmp2 rfl _ _ _) rfl ⟨by rw [hF.out]; rfl, hx1.out.bel⟩
  have d1 : decide (id < 0) = false := decide_eq_false h1
  obtain ⟨i, rfl⟩ : ∃ i : Nat, id = i := ⟨id.toNat, by omega⟩
  by_cases h2 : (n : Int) ≤ (i : Int)
  · have d2 : decide ((n : Int) ≤ (i : Int)) = true := decide_eq_true h2
    have d3 : decide (n ≤ i) = true := decide_eq_true (by omega)
    have hF : Hid (valueT g W n N i = (0, 2)) := by unfold Hid; rw [hR1.out, if_neg h1, if_pos h2]
    clear h1 h2
    go_wp2_with fail
    exact bodyPost_ret (results_tmp2 rfl _ _ _) rfl ⟨by rw [hF.out]; rfl, hx1.out.bel⟩
  have d2 : decide ((n : Int) ≤ (i : Int)) = false := decide_eq_false h2
  have d3 : decide (n ≤ i) = false := decide_eq_false (by omega)
  have hi : i < n := by omega
  have hi0 : (0 : Int) ≤ (i : Int) := by omega
  have hi1 : (i : Int) < (n : Int) := by omega
  have hR2 : Hid (valueT g W n N i = if (evF g W N n i).2 = true then (0, 10) else ((evF g W N n i).1, 0)) := by unfold Hid; rw [hR1.out, if_neg h1, if_neg h2]; rfl
  clear h1 h2 hR hR1
  obtain ⟨lb, lo, rfl, hlb, hlc⟩ := hlc'.out (by omega)
  obtain ⟨ob, oo, rfl, hob, hoc⟩ := hoc'.out (by omega)
  have rl := hlc i hi
  have ro := hoc i hi
  clear hlc hoc
  dsimp only at rl ro
  generalize evF g W N n i = r at *
  obtain ⟨r1, r2⟩ := r
  dsimp only at rl ro hR2
  cases r2 with
  | true =>
    have hF : Hid (valueT g W n N i = (0, 10)) := hR2.out
    go_wp2_with fail
    exact bodyPost_ret (results_tmp2 rfl _ _ _) rfl ⟨by rw [hF.out]; rfl, hx1.out.bel⟩
  | false =>
    have hF : Hid (valueT g W n N i = (r1, 0)) := hR2.out
    go_wp2_with fail
    exact bodyPost_ret (results_tmp2 rfl _ _ _) rfl ⟨by rw [hF.out]; rfl, hx1.out.bel⟩
end Go.Proofs.YtlhnffmbjejphaaGreat

namespace Go.Proofs.YtlhnffmbjejphaaGreat
open Go.RowKit
set_option maxRecDepth 100000

def fnX : Fn := ⟨⟨#[120]⟩, 0, 0, 0, 0, 1⟩
def gX : Sg := ⟨0, fun _ => ByteArray.empty, 1, fun _ => fnX, 0, fun _ => ⟨ByteArray.empty, 0, fun _ => ⟨ByteArray.empty, 0⟩, 0, .nil⟩⟩
def fvX : Fv := ⟨0, fun _ => ⟨0, 0, 0, 0⟩, 3⟩
def wX : Wd := ⟨0, fun _ => 0, 1, fun _ => fvX⟩
def aX : Nd := ⟨13, 0, 0, 0, 0, 1, 0, 0⟩
def pX : Nd := ⟨11, 1, 2, 0, 0, 1, 0, 1⟩
def nX : Nat → Nd := extN (extN newN 2 aX) 3 pX
theorem aX_R : NdR aX := ⟨⟨by decide, by decide⟩, ⟨by decide, by decide⟩, ⟨by decide, by decide⟩, ⟨by decide, by decide⟩, ⟨by decide, by decide⟩, ⟨by decide, by decide⟩, ⟨by decide, by decide⟩, ⟨by decide, by decide⟩⟩
theorem pX_R : NdR pX := ⟨⟨by decide, by decide⟩, ⟨by decide, by decide⟩, ⟨by decide, by decide⟩, ⟨by decide, by decide⟩, ⟨by decide, by decide⟩, ⟨by decide, by decide⟩, ⟨by decide, by decide⟩, ⟨by decide, by decide⟩⟩
theorem stands_aX (at_ : Int) : StandsP aX at_ := by
  have arg : ∀ i, argP aX at_ i := fun i => ⟨fun h => by simp [aX] at h; omega, fun _ => by unfold Nd.arg aX; split <;> rfl⟩
  exact ⟨by decide, fun h => absurd h (by decide), by decide, by decide, by decide, by decide, arg 0, arg 1, arg 2, by decide, by decide, fun h => absurd rfl h, fun h => by simp [aX] at h, fun _ _ _ => rfl⟩
theorem stands_pX : StandsP pX 3 := by
  have hi : ∀ i : Nat, 0 < i → argP pX 3 i := fun i h0 => ⟨fun h => by have : (i : Int) < 1 := h; omega, fun _ => by unfold Nd.arg pX; split <;> first | rfl | omega⟩
  exact ⟨by decide, fun _ => by decide, by decide, by decide, by decide, by decide, ⟨fun _ => ⟨by decide, by decide⟩, fun h => absurd h (by decide)⟩, hi 1 (by decide), hi 2 (by decide), by decide, by decide, fun h => absurd rfl h, fun _ => by decide, fun _ h => absurd rfl h⟩
theorem check_nX : CheckP 4 nX := by
  refine (check_new.ext (stands_aX _) ?_).ext stands_pX ?_
  · intro i hi h
    have : i = 0 ∨ i = 1 := by omega
    rcases this with rfl | rfl <;> exact absurd (congrArg Nd.op h) (by decide)
  · intro i hi h
    have : i = 0 ∨ i = 1 ∨ i = 2 := by omega
    rcases this with rfl | rfl | rfl <;> exact absurd (congrArg Nd.op h) (by decide)
theorem okX : EvOk gX wX 4 nX := ⟨by kernel_rfl, check_nX, (upTo_iff 4 fun i => okNd gX nX (nX i)).1 (by kernel_rfl)⟩
theorem valX : valueT gX wX 4 nX 3 = (4, 0) := by
  unfold valueT
  rw [valsE_of okX, if_neg (fun h => h rfl), if_neg (by decide), if_neg (by decide), if_neg (by rw [show (evF gX wX nX 4 (3 : Int).toNat).2 = false by kernel_rfl]; decide)]
  exact congrArg (fun x : Int => (x, (0 : Int))) (show (evF gX wX nX 4 (3 : Int).toNat).1 = 4 by kernel_rfl)
theorem fns_lit (w : World) (f : Fn) (hf : FnR f) (t : TypeId) : FnsAt (w.alloc (.cells #[.string f.name, .int .i64 f.len, .int .i64 f.a0, .int .i64 f.a1, .int .i64 f.a2, .int .i64 f.res] t)) (.slice (some ⟨w.heap.size, 0, none⟩) 1 1) 1 (fun _ => f) := by
  refine ⟨_, _, rfl, by omega, fun _ => ⟨w.heap.size, 0, rfl, by simp, fun i hi => ?_⟩⟩
  obtain rfl : i = 0 := by omega
  exact ⟨⟨by simp, by simp, by simp, by simp, by simp, by simp⟩, hf⟩
theorem fvs_lit (w : World) (els : Int) (he : R64 els) (t : TypeId) : FvsAt (w.alloc (.cells #[.slice none 0 0, .int .i64 els] t)) (.slice (some ⟨w.heap.size, 0, none⟩) 1 1) 1 (fun _ => ⟨0, fun _ => ⟨0, 0, 0, 0⟩, els⟩) := by
  refine ⟨_, _, rfl, by omega, fun _ => ⟨w.heap.size, 0, rfl, by simp, fun i hi => ?_⟩⟩
  obtain rfl : i = 0 := by omega
  exact ⟨_, _, ⟨by simp, by simp⟩, RowAt.nil _ _ _, rfl, he⟩
theorem ints_nil (w : World) (f : Nat → Int) : IntsAt w (.slice none 0 0) 0 f := ⟨none, 0, rfl, by omega, fun i h => absurd h (Nat.not_lt_zero i), fun h => absurd h (Nat.lt_irrefl 0)⟩
set_option maxHeartbeats 4000000 in
theorem wakes10_any (w : World) : Calls Tryz.prog 8 #[] w fun e w' => e = .returned (.bool true) ∧ Below w.heap.size w w' := by
  have htf := fun (x : World) (A : Option Addr) (n c : Nat) => run_tabField x A n c
  obtain ⟨w1, hw1⟩ : ∃ w1, w1 = (w.alloc (.cells #[.string ⟨#[120]⟩, .int .i64 0, .int .i64 0, .int .i64 0, .int .i64 0, .int .i64 1] 66)).alloc (.cells #[.slice none 0 0, .slice (some ⟨w.heap.size, 0, none⟩) 1 1, .slice none 0 0] 26) := ⟨_, rfl⟩
  have hG1 : Hid (SgAt w1 (.slice none 0 0) (.slice (some ⟨w.heap.size, 0, none⟩) 1 1) (.slice none 0 0) gX) := by
    have h := fns_lit w fnX ⟨by unfold StrR; decide, ⟨by decide, by decide⟩, ⟨by decide, by decide⟩, ⟨by decide, by decide⟩, ⟨by decide, by decide⟩, ⟨by decide, by decide⟩⟩ 66
    have h2 := FnsAt.below h (((Below.refl _ (w.alloc (.cells #[.string fnX.name, .int .i64 fnX.len, .int .i64 fnX.a0, .int .i64 fnX.a1, .int .i64 fnX.a2, .int .i64 fnX.res] 66))).alloc (Nat.le_refl _) (.cells #[.slice none 0 0, .slice (some ⟨w.heap.size, 0, none⟩) 1 1, .slice none 0 0] 26)))
    rw [hw1]
    exact ⟨RowAt.nil _ _ _, h2, RowAt.nil _ _ _⟩
  have hx1 : Hid (Bx w [(w.heap.size + 1, 0, .slice none 0 0), (w.heap.size + 1, 1, .slice (some ⟨w.heap.size, 0, none⟩) 1 1), (w.heap.size + 1, 2, .slice none 0 0)] w1) := by
    have h := (((Bx.nil w).skip (.cells #[.string ⟨#[120]⟩, .int .i64 0, .int .i64 0, .int .i64 0, .int .i64 0, .int .i64 1] 66)).row #[.slice none 0 0, .slice (some ⟨w.heap.size, 0, none⟩) 1 1, .slice none 0 0] 26)
    simp only [World.size_alloc, rowK, List.append_nil] at h
    rw [hw1]
    exact h
  have hs1 : Hid (w1.heap.size = w.heap.size + 2) := by unfold Hid; rw [hw1]; simp
  go_enter Tryz.func8, Tryz.ntmps8
  go_wp2_with fail
  rw [← hw1]
  clear hw1
  refine (RNewY_any _).mono ?_
  rintro e w2 ⟨b2, rfl, hN2, hb2, hbb⟩
  have hN2' := Lib.hid hN2
  have hx2 := Lib.hid ((hx1.out.step hbb).one (.slice (some ⟨b2, 0, none⟩) 2 2) 33)
  have hb12 := Lib.hid hbb
  have hs2 : Hid (w.heap.size + 2 ≤ w2.heap.size) := by unfold Hid; have := hbb.size; have := hs1.out; omega
  clear hN2 hb2 hbb hx1
  obtain ⟨⟨q0, -⟩, ⟨k0, -⟩, ⟨k1, -⟩, ⟨k2, -⟩, -⟩ := hx2.out.cells
  have f0 : (w2.alloc (.cells #[.slice (some ⟨b2, 0, none⟩) 2 2] 33)).frozen? ⟨w2.heap.size, 0, none⟩ = false := by simp
  have q0' := Lib.hid q0
  have f0' := Lib.hid f0
  go_wp2_with (at_builtin; refine wpList_app2n rfl _ _ rfl _ 2 newN rfl (by omega) ((hN2'.out.alloc _).alloc _) (by omega) (w2.heap.size + 1) 2 aX pX rfl ?c1 aX_R pX_R ?_)
  case c1 =>
    intro j u hu
    have := cells_new (w2.alloc (.cells #[.slice (some ⟨b2, 0, none⟩) 2 2] 33)) #[.int .i8 13, .int .i8 0, .int .i64 0, .int .i64 0, .int .i64 0, .int .i64 1, .int .i64 0, .int .i64 0, .int .i8 11, .int .i8 1, .int .i64 2, .int .i64 0, .int .i64 0, .int .i64 1, .int .i64 0, .int .i64 1] 53 j u (by rw [List.getElem?_toArray]; exact hu)
    simp only [World.size_alloc] at this
    exact this
  intro g' cap w5 hN5 hb5 hg5
  have hN5' : Hid (NdsAt w5 (.slice (some ⟨g', 0, none⟩) 4 cap) 4 nX) := hN5
  have hx5 := Lib.hid ((hx2.out.skip (.cells #[.int .i8 13, .int .i8 0, .int .i64 0, .int .i64 0, .int .i64 0, .int .i64 1, .int .i64 0, .int .i64 0, .int .i8 11, .int .i8 1, .int .i64 2, .int .i64 0, .int .i64 0, .int .i64 1, .int .i64 0, .int .i64 1] 53)).step (by simp only [World.size_alloc]; exact hb5))
  have hb15 := Lib.hid ((((hb12.out.alloc hb12.out.size (.cells #[.slice (some ⟨b2, 0, none⟩) 2 2] 33)).alloc (by have := hb12.out.size; simp; omega) (.cells #[.int .i8 13, .int .i8 0, .int .i64 0, .int .i64 0, .int .i64 0, .int .i64 1, .int .i64 0, .int .i64 0, .int .i8 11, .int .i8 1, .int .i64 2, .int .i64 0, .int .i64 0, .int .i64 1, .int .i64 0, .int .i64 1] 53))).trans (hb5.mono (by have := hb12.out.size; omega)))
  have q5 := hx5.out.cells.1.1
  have f5 : w5.frozen? ⟨w2.heap.size, 0, none⟩ = false := (hb5.frozen (p := ⟨w2.heap.size, 0, none⟩) (by dsimp only; omega)).trans ((World.frozen?_alloc_old _ _ _ (by simp)).trans f0'.out)
  clear q0 k0 k1 k2 f0 hN5 hb5 hx2
  have hx6 := Lib.hid (hx5.out.set (.slice (some ⟨g', 0, none⟩) 4 cap) (by have := hs2.out; simp; omega) (by have := hs2.out; omega))
  have hN6 := Lib.hid (hN5'.out.setBox q5 (fun _ _ h => by cases h) (.slice (some ⟨g', 0, none⟩) 4 cap))
  have hG6 := Lib.hid (hG1.out.below (hb15.out.setCell (p := ⟨w2.heap.size, 0, none⟩) hb12.out.size (.slice (some ⟨g', 0, none⟩) 4 cap)))
  obtain ⟨⟨q6, -⟩, ⟨k0, -⟩, ⟨k1, -⟩, ⟨k2, -⟩, -⟩ := hx6.out.cells
  have hVal := Lib.hid (EValue_any (.slice none 0 0) (.slice (some ⟨w.heap.size, 0, none⟩) 1 1) (.slice none 0 0) (.slice none 0 0) (.slice (some ⟨(w5.setCell ⟨w2.heap.size, 0, none⟩ (.slice (some ⟨g', 0, none⟩) 4 cap)).heap.size, 0, none⟩) 1 1) (.slice (some ⟨g', 0, none⟩) 4 cap) gX wX 4 nX 3
    ((w5.setCell ⟨w2.heap.size, 0, none⟩ (.slice (some ⟨g', 0, none⟩) 4 cap)).alloc (.cells #[.slice none 0 0, .int .i64 3] 64)) (hG6.out.alloc _) ⟨by decide, by decide, by decide⟩ ⟨ints_nil _ _, fvs_lit _ 3 ⟨by decide, by decide⟩ _⟩ ⟨by decide, by decide, fun _ _ => Nat.zero_le _⟩ (hN6.out.alloc _) (by decide))
  have hx7 := Lib.hid (hx6.out.skip (.cells #[.slice none 0 0, .int .i64 3] 64))
  rw [valX] at hVal
  have hM1 := Lib.hid fun (X : World) => AtMost_any 3 5 (-2) X ⟨by decide, by decide⟩ ⟨by decide, by decide⟩ ⟨by decide, by decide⟩
  have hM2 := Lib.hid fun (X : World) => AtMost_any 3 5 (-3) X ⟨by decide, by decide⟩ ⟨by decide, by decide⟩ ⟨by decide, by decide⟩
  rw [show atMB 3 5 (-2) = true by decide] at hM1
  rw [show atMB 3 5 (-3) = false by decide] at hM2
  clear hx5 hN5' hG1 hb15
  simp only [World.size_setCell] at hVal
  have q7 := hx7.out.cells.1.1
  go_wp2_with fail
  refine hVal.out.mono ?_
  rintro e w8 ⟨rfl, hb8⟩
  have hx8 := Lib.hid (hx7.out.step hb8)
  clear hb8 hVal q6 k0 k1 k2 q5 f5 q7
  go_wp2_with fail
  refine (hM1.out _).mono ?_
  rintro e w9 ⟨rfl, rfl⟩
  go_wp2_with fail
  refine (hM2.out _).mono ?_
  rintro e w9 ⟨rfl, rfl⟩
  go_wp2_with fail
  go_ret
  exact ⟨rfl, hx8.out.bel⟩
end Go.Proofs.YtlhnffmbjejphaaGreat
