/- Plain laws: a signature with one more, cut again. -/
import Derived.Test.YthkbekfdjfmmbaaCutG
namespace Go.Proofs.Ythkbekfdjfmmbaa
open Go.RowKit

/-- Two signatures alike, up to their numbers. -/
structure SgEq (g g' : Sg) : Prop where
  ns : g.ns = g'.ns
  nf : g.nf = g'.nf
  nm : g.nm = g'.nm
  S : ∀ i, i < g.ns → g.S i = g'.S i
  F : ∀ i, i < g.nf → g.F i = g'.F i
  M : ∀ i, i < g.nm → g.M i = g'.M i
theorem SgAt.congr {w : World} {s f m : Value} {g g' : Sg} (h : SgAt w s f m g) (e : SgEq g g') : SgAt w s f m g' := by
  obtain ⟨h1, h2, h3⟩ := h
  refine ⟨?_, ?_, ?_⟩
  · rw [← e.ns]
    exact RowAt.imp h1 fun b o i hi hC => by unfold StrIn at *; rw [← e.S i hi]; exact hC
  · rw [← e.nf]
    exact RowAt.imp h2 fun b o i hi hC => by unfold FnIn at *; rw [← e.F i hi]; exact hC
  · rw [← e.nm]
    exact RowAt.imp h3 fun b o i hi hC => by unfold McIn at *; rw [← e.M i hi]; exact hC
theorem CheckG.congr {g g' : Sg} (h : CheckG g) (e : SgEq g g') : CheckG g' := by
  have ens := e.ns
  have enf := e.nf
  have enm := e.nm
  refine ⟨by rw [← ens]; exact h.ns, by rw [← enf]; exact h.nf, by rw [← enm]; exact h.nm, fun i hi => ?_, fun i hi => ?_, fun i hi => ?_⟩
  · have hi' : i < g.ns := by omega
    rw [← e.S i hi']
    obtain ⟨h1, h2, h3, h4⟩ := h.sort i hi'
    exact ⟨h1, h2, h3, fun k hk => by rw [← e.S k (by omega)]; exact h4 k hk⟩
  · have hi' : i < g.nf := by omega
    rw [← e.F i hi', ← ens]
    obtain ⟨h1, h2, h3, h4⟩ := h.fn i hi'
    exact ⟨h1, h2, fun k hk => by rw [← e.F k (by omega)]; exact h3 k hk, h4⟩
  · have hi' : i < g.nm := by omega
    rw [← e.M i hi', ← ens, ← enf]
    obtain ⟨h1, h2, h3, h4, h5⟩ := h.mc i hi'
    exact ⟨h1, h2, fun k hk => by rw [← e.F k hk]; exact h3 k hk, fun k hk => by rw [← e.M k (by omega)]; exact h4 k hk, h5⟩
theorem SgEq.symm {g g' : Sg} (e : SgEq g g') : SgEq g' g :=
  ⟨e.ns.symm, e.nf.symm, e.nm.symm, fun i hi => (e.S i (by rw [e.ns]; exact hi)).symm, fun i hi => (e.F i (by rw [e.nf]; exact hi)).symm, fun i hi => (e.M i (by rw [e.nm]; exact hi)).symm⟩
theorem cut_addS (g : Sg) (name : ByteArray) : SgEq ((g.addS name).cut g.ns g.nf g.nm) g := ⟨rfl, rfl, rfl, fun _ hi => if_pos hi, fun _ _ => rfl, fun _ _ => rfl⟩
theorem cut_addF (g : Sg) (f : Fn) : SgEq ((g.addF f).cut g.ns g.nf g.nm) g := ⟨rfl, rfl, rfl, fun _ _ => rfl, fun _ hi => if_pos hi, fun _ _ => rfl⟩
theorem firstI_congr {n : Nat} {p q : Nat → Bool} (h : ∀ i, i < n → p i = q i) : firstI n p = firstI n q := by
  induction n with
  | zero => rfl
  | succ n ih => rw [firstI, firstI, ih fun i hi => h i (by omega), h n (by omega)]
theorem firstI_more {n : Nat} {p : Nat → Bool} (h : p n = false) : firstI (n + 1) p = firstI n p := by
  rw [firstI]
  rcases firstI_cases n p with ⟨h1, _⟩ | ⟨j, _, h1, _, _⟩
  · rw [h1, h]; rfl
  · rw [h1, if_pos (by omega)]
theorem sortN_addS {g : Sg} {name : ByteArray} {i : Nat} (hi : i < g.ns + 2) : sortN (g.addS name) i = sortN g i := by
  unfold sortN
  by_cases h : i < 2
  · rw [if_pos h, if_pos h]
  · rw [if_neg h, if_neg h]
    exact if_pos (by omega)
theorem sortN_new {g : Sg} {name : ByteArray} : sortN (g.addS name) (g.ns + 2) = name := by
  unfold sortN
  rw [if_neg (by omega)]
  exact if_neg (by omega)
theorem grows_name {g : Sg} {name : ByteArray} (hf : freeI g name true = 0) : sortI (g.addS name) name = ((g.ns + 2 : Nat) : Int) := by
  obtain ⟨_, h2, h3, h4⟩ := freeI_sort hf
  refine firstI_hit (by show g.ns + 2 < g.ns + 1 + 2; omega) (fun i hi => ?_) (by rw [sortN_new, eqS_self])
  rw [sortN_addS hi]
  refine eqS_ne ?_
  unfold sortN
  split
  · split
    · exact fun e => h2 e.symm
    · exact fun e => h3 e.symm
  · exact h4 _ (by omega)
theorem grows_other {g : Sg} {name other : ByteArray} (h : other ≠ name) : sortI (g.addS name) other = sortI g other := by
  show firstI (g.ns + 2 + 1) _ = _
  rw [firstI_more (by rw [sortN_new]; exact eqS_ne fun e => h e.symm)]
  exact firstI_congr fun i hi => by rw [sortN_addS hi]
theorem grows_fun {g : Sg} {f : Fn} (hf : freeI g f.name false = 0) : funI (g.addF f) f.name = (g.nf : Int) := by
  obtain ⟨_, _, h3, _⟩ := freeI_fun hf
  have hnew : (g.addF f).F g.nf = f := if_neg (Nat.lt_irrefl _)
  refine firstI_hit (by show g.nf < g.nf + 1; omega) (fun i hi => ?_) (by rw [hnew, eqS_self])
  rw [show (g.addF f).F i = g.F i from if_pos hi]
  exact eqS_ne (h3 i hi)
theorem grows_fother {g : Sg} {f : Fn} {other : ByteArray} (h : other ≠ f.name) : funI (g.addF f) other = funI g other := by
  have hnew : (g.addF f).F g.nf = f := if_neg (Nat.lt_irrefl _)
  show firstI (g.nf + 1) _ = _
  rw [firstI_more (by rw [hnew]; exact eqS_ne fun e => h e.symm)]
  exact firstI_congr fun i hi => by rw [show (g.addF f).F i = g.F i from if_pos hi]
theorem findV_nat (n : Nat) : findV (n : Int) = .tuple #[.int .i64 n, .bool true] := by
  unfold findV
  rw [Int.max_eq_left (by omega), decide_eq_true (by omega)]
end Go.Proofs.Ythkbekfdjfmmbaa
