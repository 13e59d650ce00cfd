/- Results that lie in a cell: tables; term.New. -/
import Derived.Test.YtecmoahadckomaaZPlacesTermA
import Derived.Test.YtecmoahadckomaaZNodeArityStands
import Derived.Laws.ResultCell
namespace Go.Proofs.Ytecmoahadckomaa
open Go.RowKit Go.Maps

def ndT : Nd := ⟨0, 0, 0, 0, 0, 0, 0, 0⟩
def ndZ : Nd := ⟨10, 0, 0, 0, 0, 1, 0, 0⟩
def newN (i : Nat) : Nd := if i = 0 then ndT else ndZ

theorem run_loadTab (w : World) (g : Nat) (v : Value) (hc : w.cell? ⟨g, 0, none⟩ = some v) : (loadVar 24 ⟨g, 0, none⟩).run Try.prog w = .ok (.agg #[v]) w := by
  go_simp
theorem results_tab {fn : Func} {p : Tmp} (h : fn.results = #[.cell p 24]) (tmps : Array Value) (w : World) (g : Nat) (v : Value)
    (hp : tmps.getD p undef = .pointer (some ⟨g, 0, none⟩)) (hc : w.cell? ⟨g, 0, none⟩ = some v) : (results fn tmps).run Try.prog w = .ok (.agg #[v]) w := by
  have hp' : tmps[p]?.getD undef = .pointer (some ⟨g, 0, none⟩) := by simpa using hp
  simp [results, h, hp', asAddr, run_loadTab w g v hc]
theorem results_tab1 {fn : Func} {p u : Tmp} (h : fn.results = #[.cell p 24, .tmp u]) (tmps : Array Value) (w : World) (g : Nat) (v : Value)
    (hp : tmps.getD p undef = .pointer (some ⟨g, 0, none⟩)) (hc : w.cell? ⟨g, 0, none⟩ = some v) : (results fn tmps).run Try.prog w = .ok (.tuple #[.agg #[v], tmps.getD u undef]) w := by
  have hp' : tmps[p]?.getD undef = .pointer (some ⟨g, 0, none⟩) := by simpa using hp
  simp [results, h, hp', asAddr, run_loadTab w g v hc, Result.andThen]
theorem results_tab2 {fn : Func} {p u x : Tmp} (h : fn.results = #[.cell p 24, .tmp u, .tmp x]) (tmps : Array Value) (w : World) (g : Nat) (v : Value)
    (hp : tmps.getD p undef = .pointer (some ⟨g, 0, none⟩)) (hc : w.cell? ⟨g, 0, none⟩ = some v) : (results fn tmps).run Try.prog w = .ok (.tuple #[.agg #[v], tmps.getD u undef, tmps.getD x undef]) w := by
  have hp' : tmps[p]?.getD undef = .pointer (some ⟨g, 0, none⟩) := by simpa using hp
  simp [results, h, hp', asAddr, run_loadTab w g v hc, Result.andThen]

theorem run_tabField (w : World) (A : Option Addr) (n c : Nat) : (Instr.field 24 (.agg #[.slice A n c]) 0).run Try.prog w = .ok (.slice A n c) w := by kernel_rfl
theorem new_cells (w : World) (t : TypeId) : NdsAt (w.alloc (.cells #[.int .i8 0, .int .i8 0, .int .i64 0, .int .i64 0, .int .i64 0, .int .i64 0, .int .i64 0, .int .i64 0, .int .i8 10, .int .i8 0, .int .i64 0, .int .i64 0, .int .i64 0, .int .i64 1, .int .i64 0, .int .i64 0] t)) (.slice (some ⟨w.heap.size, 0, none⟩) 2 2) 2 newN := by
  refine ⟨_, _, rfl, by omega, fun i hi => ?_, fun _ => ⟨_, 0, rfl, by simp, fun i hi => ?_⟩⟩
  · have : i = 0 ∨ i = 1 := by omega
    rcases this with rfl | rfl <;> (refine ⟨?_, ?_, ?_, ?_, ?_, ?_, ?_, ?_⟩ <;> exact ⟨by decide, by decide⟩)
  · have : i = 0 ∨ i = 1 := by omega
    rcases this with rfl | rfl <;> (refine ⟨?_, ?_, ?_, ?_, ?_, ?_, ?_, ?_⟩ <;> simp [newN, ndT, ndZ])

theorem New_any (w : World) : Calls Try.prog 20 #[] w fun e w' => ∃ v, e = .returned (.agg #[v]) ∧ NdsAt w' v 2 newN ∧ Below w.heap.size w w' := by
  go_enter Try.func20, Try.ntmps20
  go_wp2
  refine bodyPost_ret (results_tab rfl _ _ w.heap.size (.slice (some ⟨w.heap.size + 1, 0, none⟩) 2 2) rfl (by simp)) rfl ⟨_, rfl, ?_, ((Below.refl _ _).alloc (Nat.le_refl _) _).alloc (by simp) _⟩
  have := new_cells (w.alloc (.cells #[.slice (some ⟨w.heap.size + 1, 0, none⟩) 2 2] 24)) 39
  simpa using this
end Go.Proofs.Ytecmoahadckomaa

namespace Go.Proofs.Ytecmoahadckomaa
open Go.RowKit Go.Maps

structure CheckP (n : Nat) (N : Nat → Nd) : Prop where
  two : 2 ≤ n
  tt : N 0 = ndT
  zz : N 1 = ndZ
  all : ∀ i, i < n → StandsP (N i) i
  once : OnceN N n
noncomputable def checkB (n : Nat) (N : Nat → Nd) : Bool := @decide (CheckP n N) (Classical.propDecidable _)
noncomputable def checkT (n : Nat) (N : Nat → Nd) : Int := if checkB n N then 0 else 2
theorem check_yes {n : Nat} {N : Nat → Nd} (h : CheckP n N) : checkT n N = 0 := by
  have : checkB n N = true := by unfold checkB; exact @decide_eq_true _ (Classical.propDecidable _) h
  unfold checkT; rw [this]; rfl
theorem check_not {n : Nat} {N : Nat → Nd} (h : ¬ CheckP n N) : checkT n N = 2 := by
  have : checkB n N = false := by unfold checkB; exact @decide_eq_false _ (Classical.propDecidable _) h
  unfold checkT; rw [this]; rfl
theorem check_zero {n : Nat} {N : Nat → Nd} (h : checkT n N = 0) : CheckP n N := by
  rcases Classical.em (CheckP n N) with h1 | h1
  · exact h1
  · rw [check_not h1] at h; exact absurd h (by decide)
theorem same_new {N : Nat → Nd} : sameN 2 N 2 newN = true ↔ N 0 = ndT ∧ N 1 = ndZ := by
  unfold sameN
  rw [Bool.and_eq_true, eqN_iff]
  constructor
  · rintro ⟨_, h⟩; exact ⟨h 0 (by omega), h 1 (by omega)⟩
  · rintro ⟨h0, h1⟩
    refine ⟨by decide, fun i hi => ?_⟩
    have : i = 0 ∨ i = 1 := by omega
    rcases this with rfl | rfl
    · exact h0
    · exact h1

theorem same_iff {n m : Nat} {N M : Nat → Nd} : sameN n N m M = true ↔ n = m ∧ ∀ i, i < n → N i = M i := by
  unfold sameN
  rw [Bool.and_eq_true, eqN_iff, decide_eq_true_eq]
theorem same_yes {n : Nat} {N M : Nat → Nd} (h : ∀ i, i < n → N i = M i) : sameN n N n M = true := same_iff.2 ⟨rfl, h⟩
/-- One node more. -/
def extN (N : Nat → Nd) (n : Nat) (e : Nd) (i : Nat) : Nd := if i < n then N i else e
theorem extN_lt {N : Nat → Nd} {n i : Nat} {e : Nd} (h : i < n) : extN N n e i = N i := if_pos h
theorem extN_at (N : Nat → Nd) (n : Nat) (e : Nd) : extN N n e n = e := if_neg (Nat.lt_irrefl n)
theorem CheckP.congr {n : Nat} {N M : Nat → Nd} (h : CheckP n N) (e : ∀ i, i < n → N i = M i) : CheckP n M := by
  have h2 := h.two
  exact ⟨h2, by rw [← e 0 (by omega)]; exact h.tt, by rw [← e 1 (by omega)]; exact h.zz, fun i hi => by rw [← e i hi]; exact h.all i hi, fun i j h1 h2 => by rw [← e i (by omega), ← e j h2]; exact h.once i j h1 h2⟩
theorem CheckP.cut {n k : Nat} {N : Nat → Nd} (h : CheckP n N) (h2 : 2 ≤ k) (hk : k ≤ n) : CheckP k N :=
  ⟨h2, h.tt, h.zz, fun i hi => h.all i (by omega), fun i j h1 h2 => h.once i j h1 (by omega)⟩
theorem CheckP.ext {n : Nat} {N : Nat → Nd} {e : Nd} (h : CheckP n N) (hs : StandsP e n) (hne : ∀ i, i < n → N i ≠ e) : CheckP (n + 1) (extN N n e) := by
  have h2 := h.two
  refine ⟨by omega, ?_, ?_, fun i hi => ?_, fun i j h1 h2 => ?_⟩
  · rw [extN_lt (by omega)]; exact h.tt
  · rw [extN_lt (by omega)]; exact h.zz
  · by_cases hin : i < n
    · rw [extN_lt hin]; exact h.all i hin
    · obtain rfl : i = n := by omega
      rw [extN_at]; exact hs
  · rw [extN_lt (show i < n by omega)]
    by_cases hjn : j < n
    · rw [extN_lt hjn]; exact h.once i j h1 hjn
    · obtain rfl : j = n := by omega
      rw [extN_at]; exact hne i h1
theorem StandsP.mono {e : Nd} {a b : Int} (h : StandsP e a) (hab : a ≤ b) : StandsP e b := by
  have arg : ∀ i, argP e a i → argP e b i := fun i hi => ⟨fun g => ⟨(hi.1 g).1, by have := (hi.1 g).2; omega⟩, hi.2⟩
  exact ⟨h.kind, h.len, h.len0, h.len3, h.sort0, h.sort6, arg _ h.arg0, arg _ h.arg1, arg _ h.arg2, h.fn0, h.fn12, h.app, h.num, h.num0⟩
/-- What putting e into the n nodes N gives: m nodes M, the place at_, the error er. -/
inductive PutR (n : Nat) (N : Nat → Nd) (e : Nd) (most : Int) : Nat → (Nat → Nd) → Int → Int → Prop
  | arg (h : ¬ (CheckP n N ∧ StandsP e n)) (M : Nat → Nd) : PutR n N e most 0 M 0 2
  | there (h : CheckP n N) (hs : StandsP e n) (i : Nat) (hi : i < n) (he : N i = e) : PutR n N e most n N i 0
  | many (h : CheckP n N) (hs : StandsP e n) (hne : ∀ i, i < n → N i ≠ e) (hm : most ≤ n) (M : Nat → Nd) : PutR n N e most 0 M 0 40
  | put (h : CheckP n N) (hs : StandsP e n) (hne : ∀ i, i < n → N i ≠ e) (hm : (n : Int) < most) : PutR n N e most (n + 1) (extN N n e) n 0
/-- What cutting at k gives. -/
inductive CutR (n : Nat) (N : Nat → Nd) (k : Int) : Nat → Int → Prop
  | arg (h : ¬ (CheckP n N ∧ 2 ≤ k ∧ k ≤ n)) : CutR n N k 0 2
  | cut (h : CheckP n N) (h2 : 2 ≤ k) (hk : k ≤ n) (j : Nat) (hj : k = j) : CutR n N k j 0
theorem PutR.ok {n : Nat} {N : Nat → Nd} {e : Nd} {most : Int} {m : Nat} {M : Nat → Nd} {a : Int} (h : PutR n N e most m M a 0) :
    CheckP n N ∧ StandsP e n ∧ ((∃ i : Nat, i < n ∧ N i = e ∧ m = n ∧ M = N ∧ a = i) ∨ ((∀ i, i < n → N i ≠ e) ∧ (n : Int) < most ∧ m = n + 1 ∧ M = extN N n e ∧ a = n)) := by
  cases h with
  | there h hs i hi he => exact ⟨h, hs, .inl ⟨i, hi, he, rfl, rfl, rfl⟩⟩
  | put h hs hne hm => exact ⟨h, hs, .inr ⟨hne, hm, rfl, rfl, rfl⟩⟩
theorem PutR.fails {n : Nat} {N : Nat → Nd} {e : Nd} {most : Int} {m : Nat} {M : Nat → Nd} {a er : Int} (h : PutR n N e most m M a er) (he : er ≠ 0) : m = 0 := by
  cases h with
  | arg => rfl
  | many => rfl
  | there => exact absurd rfl he
  | put => exact absurd rfl he
theorem PutR.new {n : Nat} {N : Nat → Nd} {e : Nd} {most : Int} {m : Nat} {M : Nat → Nd} {a er : Int} (h : PutR n N e most m M a er) (hc : CheckP n N) (hs : StandsP e n) (hne : ∀ i, i < n → N i ≠ e) (hm : (n : Int) < most) :
    m = n + 1 ∧ M = extN N n e ∧ a = n ∧ er = 0 := by
  cases h with
  | arg h => exact absurd ⟨hc, hs⟩ h
  | there _ _ i hi he => exact absurd he (hne i hi)
  | many _ _ _ h => omega
  | put => exact ⟨rfl, rfl, rfl, rfl⟩
theorem PutR.old {n : Nat} {N : Nat → Nd} {e : Nd} {most : Int} {m : Nat} {M : Nat → Nd} {a er : Int} (h : PutR n N e most m M a er) (hc : CheckP n N) (hs : StandsP e n) (j : Nat) (hj : j < n) (hje : N j = e) :
    m = n ∧ M = N ∧ a = j ∧ er = 0 := by
  cases h with
  | arg h => exact absurd ⟨hc, hs⟩ h
  | there _ _ i hi he =>
    have : i = j := by
      rcases Nat.lt_trichotomy i j with h | h | h
      · exact absurd (he.trans hje.symm) (hc.once i j h hj)
      · exact h
      · exact absurd (hje.trans he.symm) (hc.once j i h hi)
    subst this
    exact ⟨rfl, rfl, rfl, rfl⟩
  | many _ _ h _ => exact absurd hje (h j hj)
  | put _ _ h => exact absurd hje (h j hj)
theorem PutR.full {n : Nat} {N : Nat → Nd} {e : Nd} {most : Int} {m : Nat} {M : Nat → Nd} {a er : Int} (h : PutR n N e most m M a er) (hc : CheckP n N) (hs : StandsP e n) (hne : ∀ i, i < n → N i ≠ e) (hm : most ≤ n) :
    m = 0 ∧ a = 0 ∧ er = 40 := by
  cases h with
  | arg h => exact absurd ⟨hc, hs⟩ h
  | there _ _ i hi he => exact absurd he (hne i hi)
  | many => exact ⟨rfl, rfl, rfl⟩
  | put _ _ _ h => omega
theorem PutR.good {n : Nat} {N : Nat → Nd} {e : Nd} {most : Int} {m : Nat} {M : Nat → Nd} {a : Int} (h : PutR n N e most m M a 0) :
    ∃ j : Nat, a = j ∧ j < m ∧ M j = e ∧ CheckP m M ∧ (n ≤ m ∧ m ≤ n + 1) ∧ (∀ i, i < n → M i = N i) ∧ StandsP e m := by
  obtain ⟨hc, hs, ⟨i, hi, hie, rfl, rfl, rfl⟩ | ⟨hne, _, rfl, rfl, rfl⟩⟩ := h.ok
  · exact ⟨i, rfl, hi, hie, hc, by omega, fun _ _ => rfl, hs⟩
  · exact ⟨n, rfl, by omega, extN_at _ _ _, hc.ext hs hne, by omega, fun i hi => extN_lt hi, hs.mono (by omega)⟩
/-- A number of Int stands anywhere; and so does a node without arguments. -/
theorem stands_num {k : Int} (h : mayB k = true) (at_ : Int) : StandsP ⟨10, 0, 0, 0, 0, 1, 0, k⟩ at_ := by
  have arg : ∀ i, argP ⟨10, 0, 0, 0, 0, 1, 0, k⟩ at_ i := fun i => ⟨fun h => by simp at h; omega, fun _ => by unfold Nd.arg; split <;> rfl⟩
  exact ⟨by show ar 10 ≠ -2; decide, fun _ => by show (0 : Int) = ar 10; decide, by show (0 : Int) ≤ 0; decide, by show (0 : Int) ≤ 3; decide, by show (0 : Int) ≤ 1; decide, by show (1 : Int) < 6; decide, arg 0, arg 1, arg 2, by show (0 : Int) ≤ 0; decide, by show (0 : Int) < 12; decide, fun h => absurd rfl h, fun _ => h, fun h => absurd rfl h⟩
theorem check_new : CheckP 2 newN := by
  refine ⟨Nat.le_refl _, rfl, rfl, fun i hi => ?_, fun i j h1 h2 => ?_⟩
  · have : i = 0 ∨ i = 1 := by omega
    rcases this with rfl | rfl
    · have arg : ∀ i, argP ndT (0 : Nat) i := fun i => ⟨fun h => by simp [ndT] at h; omega, fun _ => by unfold Nd.arg ndT; split <;> rfl⟩
      exact ⟨by show ar 0 ≠ -2; decide, fun _ => by show (0 : Int) = ar 0; decide, by decide, by show (0 : Int) ≤ 3; decide, by decide, by show (0 : Int) < 6; decide, arg 0, arg 1, arg 2, by decide, by show (0 : Int) < 12; decide, fun h => absurd rfl h, fun h => by simp [newN, ndT] at h, fun _ _ _ => rfl⟩
    · exact stands_num (by decide) _
  · have : i = 0 ∧ j = 1 := by omega
    obtain ⟨rfl, rfl⟩ := this
    decide
def num5 : Nd := ⟨10, 0, 0, 0, 0, 1, 0, 5⟩
def num6 : Nd := ⟨10, 0, 0, 0, 0, 1, 0, 6⟩
theorem new_ne (k : Int) (hk : k ≠ 0) : ∀ i, i < 2 → newN i ≠ ⟨10, 0, 0, 0, 0, 1, 0, k⟩ := by
  intro i hi h
  have : i = 0 ∨ i = 1 := by omega
  rcases this with rfl | rfl
  · have := congrArg Nd.op h; exact absurd this (by show ¬ ((0 : Int) = 10); decide)
  · have := congrArg Nd.num h; exact hk this.symm
theorem check_five : CheckP 3 (extN newN 2 num5) := check_new.ext (stands_num (by decide) _) (new_ne 5 (by decide))
theorem five_ne : ∀ i, i < 3 → extN newN 2 num5 i ≠ num6 := by
  intro i hi h
  by_cases h2 : i < 2
  · rw [extN_lt h2] at h; exact new_ne 6 (by decide) i h2 h
  · obtain rfl : i = 2 := by omega
    rw [extN_at] at h; exact absurd h (by decide)
end Go.Proofs.Ytecmoahadckomaa

namespace Go.Proofs.Ytecmoahadckomaa
open Go.RowKit

def argsTo (N : Nat → Nd) (i k : Nat) : List Int := (List.range (min k (N i).len.toNat)).map fun k => (N i).arg k
def argsN (N : Nat → Nd) (i : Nat) : List Int := argsTo N i 3

theorem CheckP.argB {n : Nat} {N : Nat → Nd} (h : CheckP n N) {i k : Nat} (hi : i < n) (hk : (k : Int) < (N i).len) : 0 ≤ (N i).arg k ∧ (N i).arg k < i ∧ k < 3 := by
  have hs := h.all i hi
  have := hs.len3
  have hk3 : k = 0 ∨ k = 1 ∨ k = 2 := by omega
  rcases hk3 with rfl | rfl | rfl
  · exact ⟨(hs.arg0.1 hk).1, (hs.arg0.1 hk).2, by omega⟩
  · exact ⟨(hs.arg1.1 hk).1, (hs.arg1.1 hk).2, by omega⟩
  · exact ⟨(hs.arg2.1 hk).1, (hs.arg2.1 hk).2, by omega⟩
theorem argsTo_in (N : Nat → Nd) (i k : Nat) (h : (k : Int) < (N i).len) : argsTo N i (k + 1) = argsTo N i k ++ [(N i).arg k] := by
  unfold argsTo
  rw [Nat.min_eq_left (by omega), Nat.min_eq_left (by omega), List.range_succ, List.map_append]
  rfl
theorem argsTo_out (N : Nat → Nd) (i k : Nat) (h : (N i).len ≤ k) : argsTo N i (k + 1) = argsTo N i k := by
  unfold argsTo
  rw [Nat.min_eq_right (by omega), Nat.min_eq_right (by omega)]
theorem argsTo_len (N : Nat → Nd) (i k : Nat) : (argsTo N i k).length ≤ k := by
  unfold argsTo
  rw [List.length_map, List.length_range]
  exact Nat.min_le_left _ _
theorem argsTo_pre (N : Nat → Nd) (i k : Nat) (hk : k ≤ 3) : argsTo N i k <+: argsN N i := by
  unfold argsN argsTo
  refine ⟨((List.range (min 3 (N i).len.toNat)).map fun k => (N i).arg k).drop (min k (N i).len.toNat), ?_⟩
  have : (List.range (min k (N i).len.toNat)).map (fun k => (N i).arg k) = ((List.range (min 3 (N i).len.toNat)).map fun k => (N i).arg k).take (min k (N i).len.toNat) := by
    rw [← List.map_take, List.take_range]
    congr 2
    omega
  rw [this, List.take_append_drop]
theorem CheckP.argsIn {n : Nat} {N : Nat → Nd} (h : CheckP n N) {i : Nat} (hi : i < n) {x : Int} (hx : x ∈ argsN N i) : 0 ≤ x ∧ x < i := by
  obtain ⟨k, hk, rfl⟩ := List.mem_map.1 hx
  have hk' := List.mem_range.1 hk
  obtain ⟨h1, h2, _⟩ := h.argB hi (k := k) (by omega)
  exact ⟨h1, h2⟩

def cap30 (x : Int) : Int := min x 1073741824
def foldG (op : Int → Int → Int) (g : Nat → Int) (l : List Int) : Int := l.foldl (fun s x => op s (g x.toNat)) 0
theorem foldG_snoc (op : Int → Int → Int) (g : Nat → Int) (l : List Int) (x : Int) : foldG op g (l ++ [x]) = op (foldG op g l) (g x.toNat) := by simp [foldG]
theorem foldl_congr (op : Int → Int → Int) (g g' : Nat → Int) (l : List Int) (h : ∀ x ∈ l, g x.toNat = g' x.toNat) : ∀ s, l.foldl (fun s x => op s (g x.toNat)) s = l.foldl (fun s x => op s (g' x.toNat)) s := by
  induction l with
  | nil => intro s; rfl
  | cons a l ih =>
    intro s
    rw [List.foldl_cons, List.foldl_cons, h a (by simp)]
    exact ih (fun x hx => h x (by simp [hx])) _
theorem foldG_congr {op : Int → Int → Int} {g g' : Nat → Int} {l : List Int} (h : ∀ x ∈ l, g x.toNat = g' x.toNat) : foldG op g l = foldG op g' l := foldl_congr op g g' l h 0

def gthL (op : Int → Int → Int) (N : Nat → Nd) : Nat → List Int
  | 0 => []
  | i + 1 => gthL op N i ++ [cap30 (foldG op (fun a => (gthL op N i).getD a 0) (argsN N i) + 1)]
def gth (op : Int → Int → Int) (N : Nat → Nd) (i : Nat) : Int := cap30 (foldG op (fun a => (gthL op N i).getD a 0) (argsN N i) + 1)
theorem gthL_len (op : Int → Int → Int) (N : Nat → Nd) (i : Nat) : (gthL op N i).length = i := by
  induction i with
  | zero => rfl
  | succ i ih => simp [gthL, ih]
theorem gthL_get (op : Int → Int → Int) (N : Nat → Nd) (i k : Nat) (h : k < i) : (gthL op N i).getD k 0 = gth op N k := by
  induction i with
  | zero => omega
  | succ i ih =>
    unfold gthL
    by_cases e : k = i
    · subst e
      rw [List.getD_eq_getElem?_getD, List.getElem?_append_right (by rw [gthL_len]; exact Nat.le_refl _), gthL_len]
      simp [gth]
    · rw [List.getD_eq_getElem?_getD, List.getElem?_append_left (by rw [gthL_len]; omega), ← List.getD_eq_getElem?_getD]
      exact ih (by omega)
theorem gth_eq {op : Int → Int → Int} {n : Nat} {N : Nat → Nd} (h : CheckP n N) {i : Nat} (hi : i < n) : gth op N i = cap30 (foldG op (gth op N) (argsN N i) + 1) := by
  unfold gth
  rw [foldG_congr (g' := gth op N) fun x hx => ?_]
  · rfl
  · obtain ⟨h0, h1⟩ := h.argsIn hi hx
    exact gthL_get op N i x.toNat (by omega)
/-- The two ways of putting together. -/
structure OpP (op : Int → Int → Int) : Prop where
  lo : ∀ s x, 0 ≤ s → 0 ≤ x → 0 ≤ op s x
  hi : ∀ s x, 0 ≤ s → 0 ≤ x → op s x ≤ s + x
theorem opSum : OpP (fun s x => s + x) := ⟨fun _ _ h h' => by omega, fun _ _ _ _ => by omega⟩
theorem opMax : OpP (fun s x => max s x) := ⟨fun _ _ h h' => by omega, fun _ _ _ _ => by omega⟩
theorem foldG_range {op : Int → Int → Int} (ho : OpP op) {g : Nat → Int} (hg : ∀ a, 0 ≤ g a ∧ g a ≤ 1073741824) (l : List Int) : 0 ≤ foldG op g l ∧ foldG op g l ≤ l.length * 1073741824 := by
  have : ∀ (l : List Int) (s : Int), 0 ≤ s → 0 ≤ l.foldl (fun s x => op s (g x.toNat)) s ∧ l.foldl (fun s x => op s (g x.toNat)) s ≤ s + l.length * 1073741824 := by
    intro l
    induction l with
    | nil => intro s h; simp; omega
    | cons a l ih =>
      intro s h
      rw [List.foldl_cons]
      have h1 := ho.lo s (g a.toNat) h (hg _).1
      have h2 := ho.hi s (g a.toNat) h (hg _).1
      have h3 := (hg a.toNat).2
      obtain ⟨h4, h5⟩ := ih (op s (g a.toNat)) h1
      refine ⟨h4, ?_⟩
      have : ((a :: l).length : Int) = l.length + 1 := by simp
      rw [this, Int.add_mul]
      omega
  obtain ⟨h1, h2⟩ := this l 0 (Int.le_refl _)
  exact ⟨h1, by unfold foldG; omega⟩
theorem gthL_range {op : Int → Int → Int} (ho : OpP op) (N : Nat → Nd) (i : Nat) : ∀ a, 0 ≤ (gthL op N i).getD a 0 ∧ (gthL op N i).getD a 0 ≤ 1073741824 := by
  induction i with
  | zero => intro a; simp [gthL]
  | succ i ih =>
    intro a
    by_cases e : a < i
    · have h1 := ih a
      rw [gthL_get op N i a e] at h1
      rw [gthL_get op N (i + 1) a (by omega)]
      exact h1
    · by_cases e' : a = i
      · subst e'
        rw [gthL_get op N (a + 1) a (by omega)]
        have := foldG_range ho ih (argsN N a)
        unfold gth cap30
        omega
      · have : (gthL op N (i + 1)).getD a 0 = 0 := by
          rw [List.getD_eq_getElem?_getD, List.getElem?_eq_none (by rw [gthL_len]; omega)]; rfl
        rw [this]; omega
theorem gth_range {op : Int → Int → Int} (ho : OpP op) (N : Nat → Nd) (i : Nat) : 0 ≤ gth op N i ∧ gth op N i ≤ 1073741824 := by
  have := gthL_range ho N (i + 1) i
  rwa [gthL_get op N (i + 1) i (by omega)] at this
end Go.Proofs.Ytecmoahadckomaa
