/- Plain: a cut table's values, and the cut's place. No program in sight. -/
import Derived.Test.YtecmoahadckomaaZEvPToEvN
namespace Go.Proofs.Ytecmoahadckomaa
open Go.RowKit

theorem EvOk.cut {g : Sg} {W : Wd} {n j : Nat} {N : Nat → Nd} (h : EvOk g W n N) (h2 : 2 ≤ j) (hj : j ≤ n) : EvOk g W j N := ⟨h.may, h.chk.cut h2 hj, fun i hi => h.srt i (by omega)⟩
theorem ev_cut {g : Sg} {W : Wd} {n j i : Nat} {N : Nat → Nd} (hj : j ≤ n) (hi : i < j) : evF g W N j i = evF g W N n i := (evF_stay hi hj).symm
theorem ev_is {g : Sg} {W : Wd} {n i : Nat} {N : Nat → Nd} (h : EvOk g W n N) (hi : i < n) : isB g.ns W (N i).sort (evF g W N n i).1 = true := ev_typed h (Nat.le_refl n) i hi
/-- Where the law cuts. -/
def cutAt (n : Nat) (c : Int) : Int := 2 + (c.tmod ((n : Int) - 1) + (n : Int) - 1).tmod ((n : Int) - 1)
theorem cutAt_in {n : Nat} (c : Int) (h : 2 ≤ n) : 2 ≤ cutAt n c ∧ cutAt n c ≤ n := by
  unfold cutAt
  have hp : (0 : Int) < (n : Int) - 1 := by omega
  have h1 := Int.tmod_lt_of_pos c hp
  have h2 : -((n : Int) - 1) < c.tmod ((n : Int) - 1) := by
    have := Int.tmod_lt_of_pos (-c) hp
    rw [Int.neg_tmod] at this
    omega
  have h3 := Int.tmod_nonneg ((n : Int) - 1) (show 0 ≤ c.tmod ((n : Int) - 1) + (n : Int) - 1 by omega)
  have h4 := Int.tmod_lt_of_pos (c.tmod ((n : Int) - 1) + (n : Int) - 1) hp
  omega
theorem cut_at2 (n : Nat) (c : Int) (h2 : 2 ≤ n) (hn : n ≤ 300) : ∃ j : Nat, wrap64 (2 + (c.tmod ((n : Int) - 1) + (n : Int) - 1) % ((n : Int) - 1)) = (j : Int) ∧ 2 ≤ j ∧ j ≤ n := by
  have h0 := Int.emod_nonneg (c.tmod ((n : Int) - 1) + (n : Int) - 1) (show ((n : Int) - 1) ≠ 0 by omega)
  have h1 := Int.emod_lt_of_pos (c.tmod ((n : Int) - 1) + (n : Int) - 1) (show 0 < ((n : Int) - 1) by omega)
  generalize (c.tmod ((n : Int) - 1) + (n : Int) - 1) % ((n : Int) - 1) = x at *
  exact ⟨(2 + x).toNat, by unfold wrap64; omega, by omega, by omega⟩
end Go.Proofs.Ytecmoahadckomaa

namespace Go.Proofs.Ytecmoahadckomaa

theorem overE_back {f : St} {e : Nd} {k : Nat} (h : overE f e k = false) : ∀ i, i < k → (f (e.arg i).toNat).2 = false := by
  induction k with
  | zero => intro i hi; omega
  | succ k ih =>
    unfold overE at h
    rw [Bool.or_eq_false_iff] at h
    intro i hi
    by_cases e : i = k
    · subst e; exact h.2
    · exact ih h.1 i (by omega)
theorem ev_back {g : Sg} {W : Wd} {n : Nat} {N : Nat → Nd} (h : CheckP n N) {j : Nat} (hj : j < n) (h2 : (evF g W N n j).2 = false) :
    (∀ i : Nat, (i : Int) < (N j).len → (evF g W N n ((N j).arg i).toNat).2 = false) ∧ (wayT g W (N j) (N j).len.toNat (argV (evF g W N n) (N j))).2 = true ∧ (evF g W N n j).1 = (wayT g W (N j) (N j).len.toNat (argV (evF g W N n) (N j))).1 := by
  have hs := h.all j hj
  have h0 := hs.len0
  have hold : ∀ i : Nat, (i : Int) < (N j).len → evF g W N j ((N j).arg i).toNat = evF g W N n ((N j).arg i).toNat := fun i hi => by
    have := h.argB hj (k := i) hi
    exact (evF_stay (by omega) (by omega)).symm
  have hc : wayT g W (N j) (N j).len.toNat (argV (evF g W N j) (N j)) = wayT g W (N j) (N j).len.toNat (argV (evF g W N n) (N j)) := wayT_congr hs fun i hi => by unfold argV; rw [hold i hi]
  have he : evF g W N n j = stepE g W N (evF g W N j) j j := by rw [evF_stay (k := j + 1) (by omega) hj, evF_succ]
  unfold stepE at he
  rw [if_pos rfl, evF_old (Nat.le_refl j), hc] at he
  by_cases ho : overE (evF g W N j) (N j) (N j).len.toNat = true
  · rw [if_pos (by simpa using ho)] at he
    rw [he] at h2; cases h2
  · rw [if_neg (by simpa using ho)] at he
    by_cases hw : (wayT g W (N j) (N j).len.toNat (argV (evF g W N n) (N j))).2 = true
    · rw [if_pos hw] at he
      refine ⟨fun i hi => ?_, hw, by rw [he]⟩
      rw [← hold i hi]
      exact overE_back (by simpa using ho) i (by omega)
    · rw [if_neg hw] at he
      rw [he] at h2; cases h2
theorem way_add {g : Sg} {W : Wd} {e : Nd} {m : Nat} {V : Nat → Int} (h : e.op = 11) (hw : (wayT g W e m V).2 = true) : addOk (V 0) e.num = true ∧ (wayT g W e m V).1 = V 0 + e.num := by
  have hx : wayT g W e m V = if addOk (V 0) e.num then (V 0 + e.num, true) else (0, false) := by simp [wayT, h]
  rw [hx] at hw ⊢
  by_cases ho : addOk (V 0) e.num = true
  · rw [if_pos ho]; exact ⟨ho, rfl⟩
  · rw [if_neg ho] at hw; cases hw
theorem way_num {g : Sg} {W : Wd} {e : Nd} {m : Nat} {V : Nat → Int} (h : e.op = 10) : wayT g W e m V = (e.num, true) := by simp [wayT, h]
theorem way_true {g : Sg} {W : Wd} {e : Nd} {m : Nat} {V : Nat → Int} (h : e.op = 0) : wayT g W e m V = (1, true) := by simp [wayT, h]
theorem way_not {g : Sg} {W : Wd} {e : Nd} {m : Nat} {V : Nat → Int} (h : e.op = 1) : wayT g W e m V = (1 - V 0, true) := by simp [wayT, h]
theorem way_diff {g : Sg} {W : Wd} {e : Nd} {m : Nat} {V : Nat → Int} (h : e.op = 12) : wayT g W e m V = (bI (atMB (V 0) (V 1) e.num), true) := by simp [wayT, h]
theorem atMB_may {a b n : Int} (ha : mayB a = true) (hb : mayB b = true) (hn : mayB n = true) : atMB a b n = decide (a - b ≤ n) := by unfold atMB; rw [ha, hb, hn]; rfl
theorem bI_one (b : Bool) : (bI b == 1) = b := by cases b <;> rfl
/-- The node True is worth 1, the node Zero 0. -/
theorem ev_true {g : Sg} {W : Wd} {n : Nat} {N : Nat → Nd} (h : CheckP n N) : evF g W N n 0 = (1, false) := by
  have h2 := h.two
  have ho : (N 0).op = 0 := by rw [h.tt]; rfl
  have hl : (N 0).len = 0 := by rw [h.tt]; rfl
  have := ev_at (g := g) (W := W) h (j := 0) (by omega) (fun i hi => by omega) (by rw [way_true ho])
  rw [this, way_true ho]
theorem ev_zero {g : Sg} {W : Wd} {n : Nat} {N : Nat → Nd} (h : CheckP n N) : evF g W N n 1 = (0, false) := by
  have h2 := h.two
  have ho : (N 1).op = 10 := by rw [h.zz]; rfl
  have hl : (N 1).len = 0 := by rw [h.zz]; rfl
  have := ev_at (g := g) (W := W) h (j := 1) (by omega) (fun i hi => by omega) (by rw [way_num ho])
  rw [this, way_num ho, h.zz]
  rfl
/-- A difference's Args are of Int, and their values may be. -/
theorem diff_may {g : Sg} {W : Wd} {n : Nat} {N : Nat → Nd} (h : EvOk g W n N) {j : Nat} (hj : j < n) (ho : (N j).op = 12) :
    (N j).len = 2 ∧ (0 ≤ (N j).a0 ∧ (N j).a0 < j) ∧ (0 ≤ (N j).a1 ∧ (N j).a1 < j) ∧ mayB (evF g W N n (N j).a0.toNat).1 = true ∧ mayB (evF g W N n (N j).a1.toNat).1 = true ∧ mayB (N j).num = true := by
  have hs := h.chk.all j hj
  have hn := okNd_iff (h.srt j hj)
  unfold nodeT at hn
  rw [if_neg (by omega)] at hn
  obtain ⟨hm, _, hA⟩ := opT_ok hn (by omega)
  rw [ho] at hm hA
  have hm : ((N j).len.toNat : Int) = 2 := hm
  have hl : (N j).len = 2 := by have := hs.len0; omega
  have hA := hA (by decide)
  have a0 : 0 ≤ (N j).a0 ∧ (N j).a0 < j := hs.arg0.1 (by omega)
  have a1 : 0 ≤ (N j).a1 ∧ (N j).a1 < j := hs.arg1.1 (by omega)
  have hz := mayW_nz h.may
  have s0 : (N (N j).a0.toNat).sort = 1 := hA 0 (by omega)
  have s1 : (N (N j).a1.toNat).sort = 1 := hA 1 (by omega)
  have t0 := ev_is h (i := (N j).a0.toNat) (by omega)
  have t1 := ev_is h (i := (N j).a1.toNat) (by omega)
  rw [s0, isB_int hz] at t0
  rw [s1, isB_int hz] at t1
  exact ⟨hl, a0, a1, t0, t1, hs.num (.inr (.inr ho))⟩
/-- A difference's value. -/
theorem ev_diff {g : Sg} {W : Wd} {n : Nat} {N : Nat → Nd} (h : EvOk g W n N) {j : Nat} (hj : j < n) (ho : (N j).op = 12) (h2 : (evF g W N n j).2 = false) :
    (evF g W N n j).1 = bI (decide ((evF g W N n (N j).a0.toNat).1 - (evF g W N n (N j).a1.toNat).1 ≤ (N j).num)) := by
  obtain ⟨_, _, _, m0, m1, mn⟩ := diff_may h hj ho
  obtain ⟨_, _, hv⟩ := ev_back h.chk hj h2
  rw [hv, way_diff ho]
  exact congrArg bI (atMB_may m0 m1 mn)
end Go.Proofs.Ytecmoahadckomaa
