/- Plain words: all nodes' values, one's, or the error (no program's text is walked here). -/
import Derived.Test.YtecmoahadckomaaGreatZEvPEvQEvAt
import Derived.Test.YtecmoahadckomaaGreatZTermBToCheckB
namespace Go.Proofs.YtecmoahadckomaaGreat
open Go.RowKit
/-- The error of telling all values. -/
noncomputable def valsE (g : Sg) (W : Wd) (n : Nat) (N : Nat → Nd) : Int := if checkT n N ≠ 0 then 2 else if mayW g W = false then 2 else if tabT g n N ≠ 0 then 33 else 0
def BlsAt (w : World) (v : Value) (n : Nat) (f : Nat → Bool) : Prop :=
  ∃ (A : Option Addr) (c : Nat), v = .slice A n c ∧ (0 < n → ∃ b o, A = some ⟨b, o, none⟩ ∧ b < w.heap.size ∧ ∀ i, i < n → w.cell? ⟨b, o + i, none⟩ = some (.bool (f i)))
theorem BlsAt.below {w w' : World} {v : Value} {n : Nat} {f : Nat → Bool} (h : BlsAt w v n f) (hb : Below w.heap.size w w') : BlsAt w' v n f := by
  obtain ⟨A, c, rfl, hc⟩ := h
  refine ⟨A, c, rfl, fun h0 => ?_⟩
  obtain ⟨b, o, rfl, hlt, hc⟩ := hc h0
  exact ⟨b, o, rfl, Nat.lt_of_lt_of_le hlt hb.size, fun i hi => (hb.cell (p := ⟨b, o + i, none⟩) hlt).trans (hc i hi)⟩
/-- What Values hands back. -/
def ValsP (g : Sg) (W : Wd) (n : Nat) (N : Nat → Nd) (w : World) (z : Ending) (w' : World) : Prop :=
  (∃ vl vo, z = .returned (.tuple #[vl, vo, .int .i64 (valsE g W n N)]) ∧ (valsE g W n N = 0 → IntsAt w' vl n (fun j => (evF g W N n j).1) ∧ BlsAt w' vo n (fun j => (evF g W N n j).2) ∧ ∃ A, vl = .slice A n n) ∧ (valsE g W n N ≠ 0 → vl = .slice none 0 0 ∧ vo = .slice none 0 0)) ∧ Below w.heap.size w w'
/-- A node's value, or the error. -/
noncomputable def valueT (g : Sg) (W : Wd) (n : Nat) (N : Nat → Nd) (id : Int) : Int × Int :=
  if valsE g W n N ≠ 0 then (0, valsE g W n N) else if id < 0 then (0, 2) else if (n : Int) ≤ id then (0, 2) else if (evF g W N n id.toNat).2 = true then (0, 10) else ((evF g W N n id.toNat).1, 0)
theorem valsE_ok {g : Sg} {W : Wd} {n : Nat} {N : Nat → Nd} (h : valsE g W n N = 0) : EvOk g W n N := by
  unfold valsE at h
  by_cases h1 : checkT n N = 0
  · rw [if_neg (fun h' => h' h1)] at h
    by_cases h2 : mayW g W = false
    · rw [if_pos h2] at h; exact absurd h (by decide)
    · rw [if_neg h2] at h
      by_cases h3 : tabT g n N = 0
      · refine ⟨by simpa using h2, check_zero h1, fun i hi => ?_⟩
        by_cases hu : upTo n (fun i => okNd g N (N i)) = true
        · exact (upTo_iff _ _).1 hu i hi
        · unfold tabT at h3
          rw [if_neg (by rw [mayW_check (by simpa using h2 : mayW g W = true)]; simp), if_neg (fun h' => h' h1), if_neg hu] at h3
          exact absurd h3 (by decide)
      · rw [if_pos h3] at h; exact absurd h (by decide)
  · rw [if_pos h1] at h; exact absurd h (by decide)
theorem valsE_of {g : Sg} {W : Wd} {n : Nat} {N : Nat → Nd} (h : EvOk g W n N) : valsE g W n N = 0 := by
  have ht : tabT g n N = 0 := by
    unfold tabT
    rw [if_neg (by rw [mayW_check h.may]; simp), if_neg (by rw [check_yes h.chk]; simp), if_pos (upTo_yes h.srt)]
  unfold valsE
  rw [check_yes h.chk, h.may, ht]
  simp
theorem valsE_cases (g : Sg) (W : Wd) (n : Nat) (N : Nat → Nd) : valsE g W n N = 0 ∨ valsE g W n N = 2 ∨ valsE g W n N = 33 := by
  unfold valsE
  repeat' split
  all_goals simp
end Go.Proofs.YtecmoahadckomaaGreat

namespace Go.Proofs.YtecmoahadckomaaGreat

theorem overE_no {f : St} {e : Nd} {k : Nat} (h : ∀ i, i < k → (f (e.arg i).toNat).2 = false) : overE f e k = false := by
  induction k with
  | zero => rfl
  | succ k ih => unfold overE; rw [ih fun i hi => h i (by omega), h k (by omega)]; rfl
/-- A node's value is its way's, where none of its Args is over. -/
theorem ev_at {g : Sg} {W : Wd} {n : Nat} {N : Nat → Nd} (h : CheckP n N) {j : Nat} (hj : j < n) (hov : ∀ i : Nat, (i : Int) < (N j).len → (evF g W N n ((N j).arg i).toNat).2 = false)
    (hw : (wayT g W (N j) (N j).len.toNat (argV (evF g W N n) (N j))).2 = true) : evF g W N n j = ((wayT g W (N j) (N j).len.toNat (argV (evF g W N n) (N j))).1, false) := by
  have hs := h.all j hj
  have h0 := hs.len0
  have hold : ∀ i : Nat, (i : Int) < (N j).len → evF g W N j ((N j).arg i).toNat = evF g W N n ((N j).arg i).toNat := fun i hi => by
    have := h.argB hj (k := i) hi
    exact (evF_stay (by omega) (by omega)).symm
  have hc : wayT g W (N j) (N j).len.toNat (argV (evF g W N j) (N j)) = wayT g W (N j) (N j).len.toNat (argV (evF g W N n) (N j)) := wayT_congr hs fun i hi => by unfold argV; rw [hold i hi]
  have ho : overE (evF g W N j) (N j) (N j).len.toNat = false := overE_no fun i hi => by rw [hold i (by omega)]; exact hov i (by omega)
  rw [evF_stay (k := j + 1) (by omega) hj, evF_succ]
  unfold stepE
  rw [if_pos rfl, ho, evF_old (Nat.le_refl j), hc, hw]
  rfl
theorem ev_ext {g : Sg} {W : Wd} {N M : Nat → Nd} {k : Nat} (h : ∀ i, i < k → M i = N i) : evF g W M k = evF g W N k := by
  induction k with
  | zero => rfl
  | succ k ih =>
    rw [evF_succ, evF_succ, ih fun i hi => h i (by omega)]
    funext j
    unfold stepE
    rw [h k (by omega)]
theorem arg_ltE {e : Nd} {at_ : Int} {n : Nat} (h : StandsP e at_) (ha : at_ ≤ n) (hn : 0 < n) (i : Nat) : (e.arg i).toNat < n := by
  have key : ∀ j : Nat, argP e at_ j → (e.arg j).toNat < n := fun j hj => by
    by_cases hl : (j : Int) < e.len
    · have := hj.1 hl; omega
    · have := hj.2 (by omega); omega
  match i with
  | 0 => exact key 0 h.arg0
  | 1 => exact key 1 h.arg1
  | 2 => exact key 2 h.arg2
  | i + 3 => exact key 2 h.arg2
theorem okNd_congrE {g : Sg} {n : Nat} {N M : Nat → Nd} {e : Nd} {at_ : Int} (h : StandsP e at_) (ha : at_ ≤ n) (hn : 0 < n) (hM : ∀ i, i < n → M i = N i) : okNd g M e = okNd g N e := by
  have : sortsN M e = sortsN N e := by
    funext i
    unfold sortsN
    rw [hM _ (arg_ltE h ha hn i)]
  unfold okNd nodeT
  rw [this]
theorem valueT_ok {g : Sg} {W : Wd} {n : Nat} {N : Nat → Nd} (h : EvOk g W n N) {j : Nat} (hj : j < n) (h2 : (evF g W N n j).2 = false) : valueT g W n N j = ((evF g W N n j).1, 0) := by
  unfold valueT
  rw [if_neg (fun h' => h' (valsE_of h)), if_neg (by omega), if_neg (by omega), if_neg (by simp [h2])]
  rfl
theorem valueT_yes {g : Sg} {W : Wd} {n : Nat} {N : Nat → Nd} {id u : Int} (h : valueT g W n N id = (u, 0)) : EvOk g W n N ∧ (0 ≤ id ∧ id < n) ∧ (evF g W N n id.toNat).2 = false ∧ u = (evF g W N n id.toNat).1 := by
  unfold valueT at h
  by_cases h0 : valsE g W n N = 0
  · rw [if_neg (fun h' => h' h0)] at h
    split at h
    · cases h
    · split at h
      · cases h
      · split at h
        · cases h
        · rename_i h3
          injection h with h4 _
          exact ⟨valsE_ok h0, ⟨by omega, by omega⟩, by simpa using h3, h4.symm⟩
  · rw [if_pos h0] at h
    injection h with _ h4
    exact absurd h4 h0
theorem EvOk.put {g : Sg} {W : Wd} {n : Nat} {N : Nat → Nd} {e : Nd} (hE : EvOk g W n N) (hs : StandsP e n) (ho : okNd g N e = true) (hne : ∀ i, i < n → N i ≠ e) : EvOk g W (n + 1) (extN N n e) := by
  have h2 := hE.chk.two
  have hM : ∀ i, i < n → extN N n e i = N i := fun i hi => extN_lt hi
  refine ⟨hE.may, hE.chk.ext hs hne, fun i hi => ?_⟩
  by_cases e1 : i < n
  · rw [hM i e1, okNd_congrE (hE.chk.all i e1) (by omega) (by omega) hM]
    exact hE.srt i e1
  · obtain rfl : i = n := by omega
    rw [extN_at, okNd_congrE hs (Int.le_refl _) (by omega) hM]
    exact ho
/-- The value of a node that was put, or found. -/
theorem put_value {g : Sg} {W : Wd} {n : Nat} {N : Nat → Nd} {e : Nd} {m : Nat} {M : Nat → Nd} {a er : Int} (hE : EvOk g W n N) (hs : StandsP e n) (ho : okNd g N e = true) (hp : PutR n N e ((n : Int) + 1) m M a er)
    (hov : ∀ i : Nat, (i : Int) < e.len → (evF g W N n (e.arg i).toNat).2 = false) (hw : (wayT g W e e.len.toNat (argV (evF g W N n) e)).2 = true) :
    er = 0 ∧ valueT g W m M a = ((wayT g W e e.len.toNat (argV (evF g W N n) e)).1, 0) ∧ m ≤ n + 1 := by
  cases hp with
  | arg h => exact absurd ⟨hE.chk, hs⟩ h
  | many _ _ _ h => omega
  | there _ _ i hi he =>
    subst he
    have hv := ev_at hE.chk hi hov hw
    refine ⟨rfl, ?_, by omega⟩
    rw [valueT_ok hE hi (by rw [hv]), hv]
  | put _ _ hne _ =>
    have h2 := hE.chk.two
    have hE' := hE.put hs ho hne
    have hM : ∀ i, i < n → extN N n e i = N i := fun i hi => extN_lt hi
    have hst : ∀ i, evF g W (extN N n e) (n + 1) (e.arg i).toNat = evF g W N n (e.arg i).toNat := fun i => by
      have := arg_ltE hs (Int.le_refl _) (by omega) i
      rw [evF_stay (k := n) this (by omega), ev_ext hM]
    have ha : argV (evF g W (extN N n e) (n + 1)) e = argV (evF g W N n) e := by
      funext i
      unfold argV
      rw [hst]
    have hv := ev_at (g := g) (W := W) hE'.chk (j := n) (by omega) (by rw [extN_at]; intro i hi; rw [hst]; exact hov i hi) (by rw [extN_at, ha]; exact hw)
    rw [extN_at, ha] at hv
    refine ⟨rfl, ?_, by omega⟩
    rw [valueT_ok hE' (by omega) (by rw [hv]), hv]
/-- The negation's node, and the choice's. -/
def notN (a : Int) : Nd := ⟨1, 1, a, 0, 0, 0, 0, 0⟩
def iteN (a b c s : Int) : Nd := ⟨7, 3, a, b, c, s, 0, 0⟩
theorem standsE_not {a : Int} {n : Nat} (h0 : 0 ≤ a) (h1 : a < n) : StandsP (notN a) n := by
  refine ⟨by show ar 1 ≠ -2; decide, fun _ => rfl, by show (0 : Int) ≤ 1; decide, by show (1 : Int) ≤ 3; decide, by show (0 : Int) ≤ 0; decide, by show (0 : Int) < 6; decide, ⟨fun _ => ⟨h0, h1⟩, fun h => ?_⟩, ⟨fun h => ?_, fun _ => rfl⟩, ⟨fun h => ?_, fun _ => rfl⟩, by show (0 : Int) ≤ 0; decide, by show (0 : Int) < 12; decide, fun h => absurd rfl h, fun h => ?_, fun _ _ _ => rfl⟩
  · have h : (1 : Int) ≤ (0 : Nat) := h
    omega
  · have h : ((1 : Nat) : Int) < 1 := h
    omega
  · have h : ((2 : Nat) : Int) < 1 := h
    omega
  · have h : (1 : Int) = 10 ∨ (1 : Int) = 11 ∨ (1 : Int) = 12 := h
    omega
theorem stands_ite {a b c s : Int} {n : Nat} (ha : 0 ≤ a ∧ a < n) (hb : 0 ≤ b ∧ b < n) (hc : 0 ≤ c ∧ c < n) (hs : 0 ≤ s ∧ s < 6) : StandsP (iteN a b c s) n := by
  refine ⟨by show ar 7 ≠ -2; decide, fun _ => rfl, by show (0 : Int) ≤ 3; decide, by show (3 : Int) ≤ 3; decide, hs.1, hs.2, ⟨fun _ => ha, fun h => ?_⟩, ⟨fun _ => hb, fun h => ?_⟩, ⟨fun _ => hc, fun h => ?_⟩, by show (0 : Int) ≤ 0; decide, by show (0 : Int) < 12; decide, fun h => absurd rfl h, fun h => ?_, fun _ _ _ => rfl⟩
  · have h : (3 : Int) ≤ (0 : Nat) := h
    omega
  · have h : (3 : Int) ≤ (1 : Nat) := h
    omega
  · have h : (3 : Int) ≤ (2 : Nat) := h
    omega
  · have h : (7 : Int) = 10 ∨ (7 : Int) = 11 ∨ (7 : Int) = 12 := h
    omega
/-- What is known of the negation's node. -/
theorem not_law {g : Sg} {W : Wd} {n : Nat} {N : Nat → Nd} {a u : Int} (h : valueT g W n N a = (u, 0)) (h0 : (N a.toNat).sort = 0) {m : Nat} {M : Nat → Nd} {k er : Int} (hp : PutR n N (notN a) ((n : Int) + 1) m M k er) :
    er = 0 ∧ valueT g W m M k = (1 - u, 0) ∧ m ≤ n + 1 ∧ (u = 0 ∨ u = 1) := by
  obtain ⟨hE, ⟨a0, a1⟩, hov, hu⟩ := valueT_yes h
  have hz := mayW_nz hE.may
  have ht := ev_typed hE (Nat.le_refl n) a.toNat (by omega)
  rw [h0, isB_bool hz, ← hu] at ht
  have hF : sortsN N (notN a) 0 = 0 := h0
  have ho : okNd g N (notN a) = true := by
    have hneg : negS 1 (sortsN N (notN a)) = false := by simp [negS, hF]
    unfold okNd nodeT
    rw [if_neg (show ¬ ((notN a).op = 13) from fun h => absurd (show (1 : Int) = 13 from h) (by decide))]
    show ((opT 1 1 (sortsN N (notN a))).2 == 0 && (opT 1 1 (sortsN N (notN a))).1 == 0) = true
    unfold opT
    rw [if_neg (by decide), if_neg (by decide), if_neg (fun h => absurd h.1 (by decide)), hneg, if_neg (by decide), if_neg (by decide)]
    unfold tailT
    rw [if_neg (by simp [alikeB]), if_neg (by rw [hF]; decide), if_neg (by decide)]
    decide
  have hw : wayT g W (notN a) (notN a).len.toNat (argV (evF g W N n) (notN a)) = (1 - u, true) := by rw [hu]; rfl
  have := put_value hE (standsE_not a0 a1) ho hp (fun i hi => by
    have : i = 0 := by have : (i : Int) < 1 := hi; omega
    subst this
    exact hov) (by rw [hw])
  rw [hw] at this
  exact ⟨this.1, this.2.1, this.2.2, ht⟩
theorem ite_law {g : Sg} {W : Wd} {n : Nat} {N : Nat → Nd} {a b c u x y : Int} (ha : valueT g W n N a = (u, 0)) (hb : valueT g W n N b = (x, 0)) (hc : valueT g W n N c = (y, 0)) (h0 : (N a.toNat).sort = 0) (h1 : (N b.toNat).sort = (N c.toNat).sort)
    {m : Nat} {M : Nat → Nd} {k er : Int} (hp : PutR n N (iteN a b c (N b.toNat).sort) ((n : Int) + 1) m M k er) :
    er = 0 ∧ valueT g W m M k = (if u = 1 then x else y, 0) ∧ m ≤ n + 1 := by
  obtain ⟨hE, ⟨a0, a1⟩, hao, hu⟩ := valueT_yes ha
  obtain ⟨-, ⟨b0, b1⟩, hbo, hx⟩ := valueT_yes hb
  obtain ⟨-, ⟨c0, c1⟩, hco, hy⟩ := valueT_yes hc
  have hst := hE.chk.all b.toNat (by omega)
  have hF0 : sortsN N (iteN a b c (N b.toNat).sort) 0 = 0 := h0
  have hF1 : sortsN N (iteN a b c (N b.toNat).sort) 1 = (N b.toNat).sort := rfl
  have hF2 : sortsN N (iteN a b c (N b.toNat).sort) 2 = (N b.toNat).sort := h1.symm
  have ho : okNd g N (iteN a b c (N b.toNat).sort) = true := by
    have hneg : negS 3 (sortsN N (iteN a b c (N b.toNat).sort)) = false := by
      have h00 : (0 : Int) ≤ (N b.toNat).sort := hst.sort0
      simp [negS, List.range, List.range.loop, hF0, hF1, hF2]
      omega
    unfold okNd nodeT
    rw [if_neg (show ¬ ((iteN a b c (N b.toNat).sort).op = 13) from fun h => absurd (show (7 : Int) = 13 from h) (by decide))]
    show ((opT 7 3 (sortsN N (iteN a b c (N b.toNat).sort))).2 == 0 && (opT 7 3 (sortsN N (iteN a b c (N b.toNat).sort))).1 == (N b.toNat).sort) = true
    rw [opT7, if_neg (fun h => h rfl), if_neg (fun h => h hF0), hneg, if_neg (by decide), if_pos (by rw [hF1, hF2]), hF1]
    simp
  have hw : wayT g W (iteN a b c (N b.toNat).sort) (iteN a b c (N b.toNat).sort).len.toNat (argV (evF g W N n) (iteN a b c (N b.toNat).sort)) = (if u = 1 then x else y, true) := by
    rw [hu, hx, hy]; rfl
  have := put_value hE (stands_ite ⟨a0, a1⟩ ⟨b0, b1⟩ ⟨c0, c1⟩ ⟨hst.sort0, hst.sort6⟩) ho hp (fun i hi => by
    have : (i : Int) < 3 := hi
    have : i = 0 ∨ i = 1 ∨ i = 2 := by omega
    rcases this with rfl | rfl | rfl
    · exact hao
    · exact hbo
    · exact hco) (by rw [hw])
  rw [hw] at this
  exact this
end Go.Proofs.YtecmoahadckomaaGreat

namespace Go.Proofs.YtecmoahadckomaaGreat
open Go.RowKit

theorem EvOk.cut {g : Sg} {W : Wd} {n j : Nat} {N : Nat → Nd} (h : EvOk g W n N) (h2 : 2 ≤ j) (hj : j ≤ n) : EvOk g W j N := ⟨h.may, h.chk.cut h2 hj, fun i hi => h.srt i (by omega)⟩
theorem ev_cut {g : Sg} {W : Wd} {n j i : Nat} {N : Nat → Nd} (hj : j ≤ n) (hi : i < j) : evF g W N j i = evF g W N n i := (evF_stay hi hj).symm
theorem ev_is {g : Sg} {W : Wd} {n i : Nat} {N : Nat → Nd} (h : EvOk g W n N) (hi : i < n) : isB g.ns W (N i).sort (evF g W N n i).1 = true := ev_typed h (Nat.le_refl n) i hi
/-- Where the law cuts. -/
def cutAt (n : Nat) (c : Int) : Int := 2 + (c.tmod ((n : Int) - 1) + (n : Int) - 1).tmod ((n : Int) - 1)
theorem cutAt_in {n : Nat} (c : Int) (h : 2 ≤ n) : 2 ≤ cutAt n c ∧ cutAt n c ≤ n := by
  unfold cutAt
  have hp : (0 : Int) < (n : Int) - 1 := by omega
  have h1 := Int.tmod_lt_of_pos c hp
  have h2 : -((n : Int) - 1) < c.tmod ((n : Int) - 1) := by
    have := Int.tmod_lt_of_pos (-c) hp
    rw [Int.neg_tmod] at this
    omega
  have h3 := Int.tmod_nonneg ((n : Int) - 1) (show 0 ≤ c.tmod ((n : Int) - 1) + (n : Int) - 1 by omega)
  have h4 := Int.tmod_lt_of_pos (c.tmod ((n : Int) - 1) + (n : Int) - 1) hp
  omega
theorem cut_at2 (n : Nat) (c : Int) (h2 : 2 ≤ n) (hn : n ≤ 300) : ∃ j : Nat, wrap64 (2 + (c.tmod ((n : Int) - 1) + (n : Int) - 1) % ((n : Int) - 1)) = (j : Int) ∧ 2 ≤ j ∧ j ≤ n := by
  have h0 := Int.emod_nonneg (c.tmod ((n : Int) - 1) + (n : Int) - 1) (show ((n : Int) - 1) ≠ 0 by omega)
  have h1 := Int.emod_lt_of_pos (c.tmod ((n : Int) - 1) + (n : Int) - 1) (show 0 < ((n : Int) - 1) by omega)
  generalize (c.tmod ((n : Int) - 1) + (n : Int) - 1) % ((n : Int) - 1) = x at *
  exact ⟨(2 + x).toNat, by unfold wrap64; omega, by omega, by omega⟩
end Go.Proofs.YtecmoahadckomaaGreat

namespace Go.Proofs.YtecmoahadckomaaGreat

theorem overE_back {f : St} {e : Nd} {k : Nat} (h : overE f e k = false) : ∀ i, i < k → (f (e.arg i).toNat).2 = false := by
  induction k with
  | zero => intro i hi; omega
  | succ k ih =>
    unfold overE at h
    rw [Bool.or_eq_false_iff] at h
    intro i hi
    by_cases e : i = k
    · subst e; exact h.2
    · exact ih h.1 i (by omega)
theorem ev_back {g : Sg} {W : Wd} {n : Nat} {N : Nat → Nd} (h : CheckP n N) {j : Nat} (hj : j < n) (h2 : (evF g W N n j).2 = false) :
    (∀ i : Nat, (i : Int) < (N j).len → (evF g W N n ((N j).arg i).toNat).2 = false) ∧ (wayT g W (N j) (N j).len.toNat (argV (evF g W N n) (N j))).2 = true ∧ (evF g W N n j).1 = (wayT g W (N j) (N j).len.toNat (argV (evF g W N n) (N j))).1 := by
  have hs := h.all j hj
  have h0 := hs.len0
  have hold : ∀ i : Nat, (i : Int) < (N j).len → evF g W N j ((N j).arg i).toNat = evF g W N n ((N j).arg i).toNat := fun i hi => by
    have := h.argB hj (k := i) hi
    exact (evF_stay (by omega) (by omega)).symm
  have hc : wayT g W (N j) (N j).len.toNat (argV (evF g W N j) (N j)) = wayT g W (N j) (N j).len.toNat (argV (evF g W N n) (N j)) := wayT_congr hs fun i hi => by unfold argV; rw [hold i hi]
  have he : evF g W N n j = stepE g W N (evF g W N j) j j := by rw [evF_stay (k := j + 1) (by omega) hj, evF_succ]
  unfold stepE at he
  rw [if_pos rfl, evF_old (Nat.le_refl j), hc] at he
  by_cases ho : overE (evF g W N j) (N j) (N j).len.toNat = true
  · rw [if_pos (by simpa using ho)] at he
    rw [he] at h2; cases h2
  · rw [if_neg (by simpa using ho)] at he
    by_cases hw : (wayT g W (N j) (N j).len.toNat (argV (evF g W N n) (N j))).2 = true
    · rw [if_pos hw] at he
      refine ⟨fun i hi => ?_, hw, by rw [he]⟩
      rw [← hold i hi]
      exact overE_back (by simpa using ho) i (by omega)
    · rw [if_neg hw] at he
      rw [he] at h2; cases h2
theorem way_add {g : Sg} {W : Wd} {e : Nd} {m : Nat} {V : Nat → Int} (h : e.op = 11) (hw : (wayT g W e m V).2 = true) : addOk (V 0) e.num = true ∧ (wayT g W e m V).1 = V 0 + e.num := by
  have hx : wayT g W e m V = if addOk (V 0) e.num then (V 0 + e.num, true) else (0, false) := by simp [wayT, h]
  rw [hx] at hw ⊢
  by_cases ho : addOk (V 0) e.num = true
  · rw [if_pos ho]; exact ⟨ho, rfl⟩
  · rw [if_neg ho] at hw; cases hw
theorem way_num {g : Sg} {W : Wd} {e : Nd} {m : Nat} {V : Nat → Int} (h : e.op = 10) : wayT g W e m V = (e.num, true) := by simp [wayT, h]
theorem way_true {g : Sg} {W : Wd} {e : Nd} {m : Nat} {V : Nat → Int} (h : e.op = 0) : wayT g W e m V = (1, true) := by simp [wayT, h]
theorem way_not {g : Sg} {W : Wd} {e : Nd} {m : Nat} {V : Nat → Int} (h : e.op = 1) : wayT g W e m V = (1 - V 0, true) := by simp [wayT, h]
theorem way_diff {g : Sg} {W : Wd} {e : Nd} {m : Nat} {V : Nat → Int} (h : e.op = 12) : wayT g W e m V = (bI (atMB (V 0) (V 1) e.num), true) := by simp [wayT, h]
theorem atMB_may {a b n : Int} (ha : mayB a = true) (hb : mayB b = true) (hn : mayB n = true) : atMB a b n = decide (a - b ≤ n) := by unfold atMB; rw [ha, hb, hn]; rfl
theorem bI_one (b : Bool) : (bI b == 1) = b := by cases b <;> rfl
/-- The node True is worth 1, the node Zero 0. -/
theorem ev_true {g : Sg} {W : Wd} {n : Nat} {N : Nat → Nd} (h : CheckP n N) : evF g W N n 0 = (1, false) := by
  have h2 := h.two
  have ho : (N 0).op = 0 := by rw [h.tt]; rfl
  have hl : (N 0).len = 0 := by rw [h.tt]; rfl
  have := ev_at (g := g) (W := W) h (j := 0) (by omega) (fun i hi => by omega) (by rw [way_true ho])
  rw [this, way_true ho]
theorem ev_zero {g : Sg} {W : Wd} {n : Nat} {N : Nat → Nd} (h : CheckP n N) : evF g W N n 1 = (0, false) := by
  have h2 := h.two
  have ho : (N 1).op = 10 := by rw [h.zz]; rfl
  have hl : (N 1).len = 0 := by rw [h.zz]; rfl
  have := ev_at (g := g) (W := W) h (j := 1) (by omega) (fun i hi => by omega) (by rw [way_num ho])
  rw [this, way_num ho, h.zz]
  rfl
/-- A difference's Args are of Int, and their values may be. -/
theorem diff_may {g : Sg} {W : Wd} {n : Nat} {N : Nat → Nd} (h : EvOk g W n N) {j : Nat} (hj : j < n) (ho : (N j).op = 12) :
    (N j).len = 2 ∧ (0 ≤ (N j).a0 ∧ (N j).a0 < j) ∧ (0 ≤ (N j).a1 ∧ (N j).a1 < j) ∧ mayB (evF g W N n (N j).a0.toNat).1 = true ∧ mayB (evF g W N n (N j).a1.toNat).1 = true ∧ mayB (N j).num = true := by
  have hs := h.chk.all j hj
  have hn := okNd_iff (h.srt j hj)
  unfold nodeT at hn
  rw [if_neg (by omega)] at hn
  obtain ⟨hm, _, hA⟩ := opT_ok hn (by omega)
  rw [ho] at hm hA
  have hm : ((N j).len.toNat : Int) = 2 := hm
  have hl : (N j).len = 2 := by have := hs.len0; omega
  have hA := hA (by decide)
  have a0 : 0 ≤ (N j).a0 ∧ (N j).a0 < j := hs.arg0.1 (by omega)
  have a1 : 0 ≤ (N j).a1 ∧ (N j).a1 < j := hs.arg1.1 (by omega)
  have hz := mayW_nz h.may
  have s0 : (N (N j).a0.toNat).sort = 1 := hA 0 (by omega)
  have s1 : (N (N j).a1.toNat).sort = 1 := hA 1 (by omega)
  have t0 := ev_is h (i := (N j).a0.toNat) (by omega)
  have t1 := ev_is h (i := (N j).a1.toNat) (by omega)
  rw [s0, isB_int hz] at t0
  rw [s1, isB_int hz] at t1
  exact ⟨hl, a0, a1, t0, t1, hs.num (.inr (.inr ho))⟩
/-- A difference's value. -/
theorem ev_diff {g : Sg} {W : Wd} {n : Nat} {N : Nat → Nd} (h : EvOk g W n N) {j : Nat} (hj : j < n) (ho : (N j).op = 12) (h2 : (evF g W N n j).2 = false) :
    (evF g W N n j).1 = bI (decide ((evF g W N n (N j).a0.toNat).1 - (evF g W N n (N j).a1.toNat).1 ≤ (N j).num)) := by
  obtain ⟨_, _, _, m0, m1, mn⟩ := diff_may h hj ho
  obtain ⟨_, _, hv⟩ := ev_back h.chk hj h2
  rw [hv, way_diff ho]
  exact congrArg bI (atMB_may m0 m1 mn)
end Go.Proofs.YtecmoahadckomaaGreat
