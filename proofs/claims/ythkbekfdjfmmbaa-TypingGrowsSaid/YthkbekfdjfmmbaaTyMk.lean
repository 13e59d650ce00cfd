/- typing.Make. -/
import Derived.Test.YthkbekfdjfmmbaaTyMake
namespace Go.Proofs.Ythkbekfdjfmmbaa
open Go.RowKit
set_option maxRecDepth 100000

theorem setRow_top (W : World) (old cs : Array Value) (t : TypeId) : (W.alloc (.cells old t)).setRow W.heap.size cs = W.alloc (.cells cs t) := by
  unfold World.setRow World.alloc
  congr 1
  apply Array.ext_getElem?
  intro i
  show ((W.heap.push (Obj.cells old t)).modify W.heap.size _)[i]? = (W.heap.push (Obj.cells cs t))[i]?
  rw [Array.getElem?_modify, Array.getElem?_push, Array.getElem?_push]
  by_cases e : W.heap.size = i
  · subst e; simp
  · rw [if_neg e, if_neg (fun h => e h.symm), if_neg (fun h => e h.symm)]
def padA (m : Nat) (A : Nat → Int) (i : Nat) : Int := if i < m then A i else 0
theorem copy_args (W : World) (U : Option Addr) (m cu : Nat) (A : Nat → Int) (op len f k : Int) (hu : IntsAt W (.slice U m cu) m A) (hm : m ≤ 3) (ty : TypeId) :
    (Builtin.copy_ #[52, 52] ty #[.slice (some ⟨W.heap.size, 2, none⟩) 3 3, .slice U m cu]).run Try.prog (W.alloc (.cells #[.int .i8 op, .int .i8 len, .int .i64 0, .int .i64 0, .int .i64 0, .int .i64 0, .int .i64 f, .int .i64 k] 62)) =
      .ok (.int .i64 m) (W.alloc (.cells #[.int .i8 op, .int .i8 len, .int .i64 (padA m A 0), .int .i64 (padA m A 1), .int .i64 (padA m A 2), .int .i64 0, .int .i64 f, .int .i64 k] 62)) := by
  have hsz : (Try.prog.info? 3).map (·.size) = some 1 := by kernel_rfl
  by_cases h0 : m = 0
  · subst h0
    exact run_copy_none _ _ _ ty 3 _ _ _ _ _ _ Try.underlying52 hsz rfl
  · obtain ⟨U', c', e, _, _, hc⟩ := hu
    injection e with e1 _ e3
    subst e1; subst e3
    obtain ⟨b, o, rfl, hb, hc⟩ := hc (by omega)
    have h := run_copy_row (P := Try.prog) (W.alloc (.cells #[.int .i8 op, .int .i8 len, .int .i64 0, .int .i64 0, .int .i64 0, .int .i64 0, .int .i64 f, .int .i64 k] 62)) 52 52 ty 3 W.heap.size 2 3 3 ⟨b, o, none⟩ m cu
      #[.int .i8 op, .int .i8 len, .int .i64 0, .int .i64 0, .int .i64 0, .int .i64 0, .int .i64 f, .int .i64 k] 62 ((List.range m).map fun i => .int .i64 (A i)) Try.underlying52 hsz (by show (W.heap.push _)[W.heap.size]? = _; simp) (by rw [List.length_map, List.length_range]; exact (Nat.min_eq_left hm).symm) ?_ (by simp; omega) ?_
    · rw [h, setRow_top]
      have : m = 1 ∨ m = 2 ∨ m = 3 := by omega
      rcases this with rfl | rfl | rfl <;> rfl
    · intro j v hj
      have hjm : j < m := by
        have := (List.getElem?_eq_some_iff.1 hj).1
        simpa using this
      simp [hjm] at hj
      subst hj
      have e1 : ((⟨b, o, none⟩ : Addr).add j) = ⟨b, o + j, none⟩ := by
        unfold Addr.add; split
        · next e => rw [e, Nat.add_zero]
        · rfl
      rw [e1]
      exact (((Below.refl W.heap.size W).alloc (Nat.le_refl _) _).cell (p := ⟨b, o + j, none⟩) hb).trans (hc j hjm)
    · intro v hv
      obtain ⟨i, _, rfl⟩ := List.mem_map.1 hv
      rfl
/-- The node that Make tries. -/
def mkNd (op : Int) (m : Nat) (A : Nat → Int) (f k : Int) : Nd := ⟨op, m, padA m A 0, padA m A 1, padA m A 2, 0, f, k⟩
def Nd.sorted (e : Nd) (s : Int) : Nd := { e with sort := s }
noncomputable def makeT (g : Sg) (n : Nat) (N : Nat → Nd) (op : Int) (m : Nat) (A : Nat → Int) (f k : Int) : Nd × Int :=
  if 3 < m then (nd0, 2)
  else if mayT g n N (mkNd op m A f k) = false then (nd0, 2)
  else if (nodeT g N (mkNd op m A f k)).2 = 0 then ((mkNd op m A f k).sorted (nodeT g N (mkNd op m A f k)).1, 0) else (nd0, 33)
theorem mkNd_R {op : Int} {m : Nat} {A : Nat → Int} {f k : Int} (h8 : R8 op) (hm : m ≤ 3) (hA : ∀ i, i < m → R64 (A i)) (hf : R64 f) (hk : R64 k) : NdR (mkNd op m A f k) := by
  have hp : ∀ i, R64 (padA m A i) := fun i => by
    unfold padA
    by_cases h : i < m
    · rw [if_pos h]; exact hA i h
    · rw [if_neg h]; exact ⟨by decide, by decide⟩
  exact ⟨h8, ⟨by show (-128 : Int) ≤ m; omega, by show (m : Int) ≤ 127; omega⟩, hp 0, hp 1, hp 2, ⟨by show (-9223372036854775808 : Int) ≤ 0; decide, by show (0 : Int) ≤ 9223372036854775807; decide⟩, hf, hk⟩
theorem mkNd_arg {op : Int} {m : Nat} {A : Nat → Int} {f k : Int} {i : Nat} (hi : i < m) (hm : m ≤ 3) : (mkNd op m A f k).arg i = A i := by
  have : i = 0 ∨ i = 1 ∨ i = 2 := by omega
  rcases this with rfl | rfl | rfl <;> exact if_pos hi
theorem make_out {g : Sg} {n : Nat} {N : Nat → Nd} {op : Int} {m : Nat} {A : Nat → Int} {f k : Int} {i : Nat} (hi : i < m) (hA : A i < 0 ∨ (n : Int) ≤ A i) : makeT g n N op m A f k = (nd0, 2) := by
  unfold makeT
  by_cases h3 : 3 < m
  · rw [if_pos h3]
  · rw [if_neg h3]
    have hno : ¬ StandsP (mkNd op m A f k) n := fun hs => by
      have ha := mkNd_arg (op := op) (f := f) (k := k) (A := A) hi (by omega : m ≤ 3)
      have hl : ((i : Nat) : Int) < (mkNd op m A f k).len := by show (i : Int) < (m : Int); omega
      have : i = 0 ∨ i = 1 ∨ i = 2 := by omega
      rcases this with rfl | rfl | rfl
      · have := hs.arg0.1 hl; omega
      · have := hs.arg1.1 hl; omega
      · have := hs.arg2.1 hl; omega
    rw [if_pos (by unfold mayT; rw [stands_no hno, Bool.and_false, Bool.and_false])]
end Go.Proofs.Ythkbekfdjfmmbaa
