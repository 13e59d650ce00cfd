/- Results that lie in a cell: tables; term.New. -/
import Derived.Test.YtlhnffmbjejphaaZPlacesTermA
import Derived.Test.YtlhnffmbjejphaaZStands
import Derived.Laws.ResultCell
namespace Go.Proofs.Ytlhnffmbjejphaa
open Go.RowKit Go.Maps

def ndT : Nd := ⟨0, 0, 0, 0, 0, 0, 0, 0⟩
def ndZ : Nd := ⟨10, 0, 0, 0, 0, 1, 0, 0⟩
def newN (i : Nat) : Nd := if i = 0 then ndT else ndZ

theorem run_loadTab (w : World) (g : Nat) (v : Value) (hc : w.cell? ⟨g, 0, none⟩ = some v) : (loadVar 36 ⟨g, 0, none⟩).run Try.prog w = .ok (.agg #[v]) w := by
  go_simp
theorem results_tab {fn : Func} {p : Tmp} (h : fn.results = #[.cell p 36]) (tmps : Array Value) (w : World) (g : Nat) (v : Value)
    (hp : tmps.getD p undef = .pointer (some ⟨g, 0, none⟩)) (hc : w.cell? ⟨g, 0, none⟩ = some v) : (results fn tmps).run Try.prog w = .ok (.agg #[v]) w := by
  have hp' : tmps[p]?.getD undef = .pointer (some ⟨g, 0, none⟩) := by simpa using hp
  simp [results, h, hp', asAddr, run_loadTab w g v hc]
theorem results_tab1 {fn : Func} {p u : Tmp} (h : fn.results = #[.cell p 36, .tmp u]) (tmps : Array Value) (w : World) (g : Nat) (v : Value)
    (hp : tmps.getD p undef = .pointer (some ⟨g, 0, none⟩)) (hc : w.cell? ⟨g, 0, none⟩ = some v) : (results fn tmps).run Try.prog w = .ok (.tuple #[.agg #[v], tmps.getD u undef]) w := by
  have hp' : tmps[p]?.getD undef = .pointer (some ⟨g, 0, none⟩) := by simpa using hp
  simp [results, h, hp', asAddr, run_loadTab w g v hc, Result.andThen]
theorem results_tab2 {fn : Func} {p u x : Tmp} (h : fn.results = #[.cell p 36, .tmp u, .tmp x]) (tmps : Array Value) (w : World) (g : Nat) (v : Value)
    (hp : tmps.getD p undef = .pointer (some ⟨g, 0, none⟩)) (hc : w.cell? ⟨g, 0, none⟩ = some v) : (results fn tmps).run Try.prog w = .ok (.tuple #[.agg #[v], tmps.getD u undef, tmps.getD x undef]) w := by
  have hp' : tmps[p]?.getD undef = .pointer (some ⟨g, 0, none⟩) := by simpa using hp
  simp [results, h, hp', asAddr, run_loadTab w g v hc, Result.andThen]

theorem run_tabField (w : World) (A : Option Addr) (n c : Nat) : (Instr.field 36 (.agg #[.slice A n c]) 0).run Try.prog w = .ok (.slice A n c) w := by kernel_rfl
theorem new_cells (w : World) (t : TypeId) : NdsAt (w.alloc (.cells #[.int .i8 0, .int .i8 0, .int .i64 0, .int .i64 0, .int .i64 0, .int .i64 0, .int .i64 0, .int .i64 0, .int .i8 10, .int .i8 0, .int .i64 0, .int .i64 0, .int .i64 0, .int .i64 1, .int .i64 0, .int .i64 0] t)) (.slice (some ⟨w.heap.size, 0, none⟩) 2 2) 2 newN := by
  refine ⟨_, _, rfl, by omega, fun i hi => ?_, fun _ => ⟨_, 0, rfl, by simp, fun i hi => ?_⟩⟩
  · have : i = 0 ∨ i = 1 := by omega
    rcases this with rfl | rfl <;> (refine ⟨?_, ?_, ?_, ?_, ?_, ?_, ?_, ?_⟩ <;> exact ⟨by decide, by decide⟩)
  · have : i = 0 ∨ i = 1 := by omega
    rcases this with rfl | rfl <;> (refine ⟨?_, ?_, ?_, ?_, ?_, ?_, ?_, ?_⟩ <;> simp [newN, ndT, ndZ])

theorem New_any (w : World) : Calls Try.prog 45 #[] w fun e w' => ∃ v, e = .returned (.agg #[v]) ∧ NdsAt w' v 2 newN ∧ Below w.heap.size w w' := by
  go_enter Try.func45, Try.ntmps45
  go_wp2
  refine bodyPost_ret (results_tab rfl _ _ w.heap.size (.slice (some ⟨w.heap.size + 1, 0, none⟩) 2 2) rfl (by simp)) rfl ⟨_, rfl, ?_, ((Below.refl _ _).alloc (Nat.le_refl _) _).alloc (by simp) _⟩
  have := new_cells (w.alloc (.cells #[.slice (some ⟨w.heap.size + 1, 0, none⟩) 2 2] 36)) 49
  simpa using this
end Go.Proofs.Ytlhnffmbjejphaa

namespace Go.Proofs.Ytlhnffmbjejphaa
open Go.RowKit Go.Maps

structure CheckP (n : Nat) (N : Nat → Nd) : Prop where
  two : 2 ≤ n
  tt : N 0 = ndT
  zz : N 1 = ndZ
  all : ∀ i, i < n → StandsP (N i) i
  once : OnceN N n
noncomputable def checkB (n : Nat) (N : Nat → Nd) : Bool := @decide (CheckP n N) (Classical.propDecidable _)
noncomputable def checkT (n : Nat) (N : Nat → Nd) : Int := if checkB n N then 0 else 2
theorem check_yes {n : Nat} {N : Nat → Nd} (h : CheckP n N) : checkT n N = 0 := by
  have : checkB n N = true := by unfold checkB; exact @decide_eq_true _ (Classical.propDecidable _) h
  unfold checkT; rw [this]; rfl
theorem check_not {n : Nat} {N : Nat → Nd} (h : ¬ CheckP n N) : checkT n N = 2 := by
  have : checkB n N = false := by unfold checkB; exact @decide_eq_false _ (Classical.propDecidable _) h
  unfold checkT; rw [this]; rfl
theorem check_zero {n : Nat} {N : Nat → Nd} (h : checkT n N = 0) : CheckP n N := by
  rcases Classical.em (CheckP n N) with h1 | h1
  · exact h1
  · rw [check_not h1] at h; exact absurd h (by decide)
theorem same_new {N : Nat → Nd} : sameN 2 N 2 newN = true ↔ N 0 = ndT ∧ N 1 = ndZ := by
  unfold sameN
  rw [Bool.and_eq_true, eqN_iff]
  constructor
  · rintro ⟨_, h⟩; exact ⟨h 0 (by omega), h 1 (by omega)⟩
  · rintro ⟨h0, h1⟩
    refine ⟨by decide, fun i hi => ?_⟩
    have : i = 0 ∨ i = 1 := by omega
    rcases this with rfl | rfl
    · exact h0
    · exact h1

theorem same_iff {n m : Nat} {N M : Nat → Nd} : sameN n N m M = true ↔ n = m ∧ ∀ i, i < n → N i = M i := by
  unfold sameN
  rw [Bool.and_eq_true, eqN_iff, decide_eq_true_eq]
theorem same_yes {n : Nat} {N M : Nat → Nd} (h : ∀ i, i < n → N i = M i) : sameN n N n M = true := same_iff.2 ⟨rfl, h⟩
/-- One node more. -/
def extN (N : Nat → Nd) (n : Nat) (e : Nd) (i : Nat) : Nd := if i < n then N i else e
theorem extN_lt {N : Nat → Nd} {n i : Nat} {e : Nd} (h : i < n) : extN N n e i = N i := if_pos h
theorem extN_at (N : Nat → Nd) (n : Nat) (e : Nd) : extN N n e n = e := if_neg (Nat.lt_irrefl n)
theorem CheckP.congr {n : Nat} {N M : Nat → Nd} (h : CheckP n N) (e : ∀ i, i < n → N i = M i) : CheckP n M := by
  have h2 := h.two
  exact ⟨h2, by rw [← e 0 (by omega)]; exact h.tt, by rw [← e 1 (by omega)]; exact h.zz, fun i hi => by rw [← e i hi]; exact h.all i hi, fun i j h1 h2 => by rw [← e i (by omega), ← e j h2]; exact h.once i j h1 h2⟩
theorem CheckP.cut {n k : Nat} {N : Nat → Nd} (h : CheckP n N) (h2 : 2 ≤ k) (hk : k ≤ n) : CheckP k N :=
  ⟨h2, h.tt, h.zz, fun i hi => h.all i (by omega), fun i j h1 h2 => h.once i j h1 (by omega)⟩
theorem CheckP.ext {n : Nat} {N : Nat → Nd} {e : Nd} (h : CheckP n N) (hs : StandsP e n) (hne : ∀ i, i < n → N i ≠ e) : CheckP (n + 1) (extN N n e) := by
  have h2 := h.two
  refine ⟨by omega, ?_, ?_, fun i hi => ?_, fun i j h1 h2 => ?_⟩
  · rw [extN_lt (by omega)]; exact h.tt
  · rw [extN_lt (by omega)]; exact h.zz
  · by_cases hin : i < n
    · rw [extN_lt hin]; exact h.all i hin
    · obtain rfl : i = n := by omega
      rw [extN_at]; exact hs
  · rw [extN_lt (show i < n by omega)]
    by_cases hjn : j < n
    · rw [extN_lt hjn]; exact h.once i j h1 hjn
    · obtain rfl : j = n := by omega
      rw [extN_at]; exact hne i h1
theorem StandsP.mono {e : Nd} {a b : Int} (h : StandsP e a) (hab : a ≤ b) : StandsP e b := by
  have arg : ∀ i, argP e a i → argP e b i := fun i hi => ⟨fun g => ⟨(hi.1 g).1, by have := (hi.1 g).2; omega⟩, hi.2⟩
  exact ⟨h.kind, h.len, h.len0, h.len3, h.sort0, h.sort6, arg _ h.arg0, arg _ h.arg1, arg _ h.arg2, h.fn0, h.fn12, h.app, h.num, h.num0⟩
/-- What putting e into the n nodes N gives: m nodes M, the place at_, the error er. -/
inductive PutR (n : Nat) (N : Nat → Nd) (e : Nd) (most : Int) : Nat → (Nat → Nd) → Int → Int → Prop
  | arg (h : ¬ (CheckP n N ∧ StandsP e n)) (M : Nat → Nd) : PutR n N e most 0 M 0 2
  | there (h : CheckP n N) (hs : StandsP e n) (i : Nat) (hi : i < n) (he : N i = e) : PutR n N e most n N i 0
  | many (h : CheckP n N) (hs : StandsP e n) (hne : ∀ i, i < n → N i ≠ e) (hm : most ≤ n) (M : Nat → Nd) : PutR n N e most 0 M 0 40
  | put (h : CheckP n N) (hs : StandsP e n) (hne : ∀ i, i < n → N i ≠ e) (hm : (n : Int) < most) : PutR n N e most (n + 1) (extN N n e) n 0
/-- What cutting at k gives. -/
inductive CutR (n : Nat) (N : Nat → Nd) (k : Int) : Nat → Int → Prop
  | arg (h : ¬ (CheckP n N ∧ 2 ≤ k ∧ k ≤ n)) : CutR n N k 0 2
  | cut (h : CheckP n N) (h2 : 2 ≤ k) (hk : k ≤ n) (j : Nat) (hj : k = j) : CutR n N k j 0
theorem PutR.ok {n : Nat} {N : Nat → Nd} {e : Nd} {most : Int} {m : Nat} {M : Nat → Nd} {a : Int} (h : PutR n N e most m M a 0) :
    CheckP n N ∧ StandsP e n ∧ ((∃ i : Nat, i < n ∧ N i = e ∧ m = n ∧ M = N ∧ a = i) ∨ ((∀ i, i < n → N i ≠ e) ∧ (n : Int) < most ∧ m = n + 1 ∧ M = extN N n e ∧ a = n)) := by
  cases h with
  | there h hs i hi he => exact ⟨h, hs, .inl ⟨i, hi, he, rfl, rfl, rfl⟩⟩
  | put h hs hne hm => exact ⟨h, hs, .inr ⟨hne, hm, rfl, rfl, rfl⟩⟩
theorem PutR.fails {n : Nat} {N : Nat → Nd} {e : Nd} {most : Int} {m : Nat} {M : Nat → Nd} {a er : Int} (h : PutR n N e most m M a er) (he : er ≠ 0) : m = 0 := by
  cases h with
  | arg => rfl
  | many => rfl
  | there => exact absurd rfl he
  | put => exact absurd rfl he
theorem PutR.new {n : Nat} {N : Nat → Nd} {e : Nd} {most : Int} {m : Nat} {M : Nat → Nd} {a er : Int} (h : PutR n N e most m M a er) (hc : CheckP n N) (hs : StandsP e n) (hne : ∀ i, i < n → N i ≠ e) (hm : (n : Int) < most) :
    m = n + 1 ∧ M = extN N n e ∧ a = n ∧ er = 0 := by
  cases h with
  | arg h => exact absurd ⟨hc, hs⟩ h
  | there _ _ i hi he => exact absurd he (hne i hi)
  | many _ _ _ h => omega
  | put => exact ⟨rfl, rfl, rfl, rfl⟩
theorem PutR.old {n : Nat} {N : Nat → Nd} {e : Nd} {most : Int} {m : Nat} {M : Nat → Nd} {a er : Int} (h : PutR n N e most m M a er) (hc : CheckP n N) (hs : StandsP e n) (j : Nat) (hj : j < n) (hje : N j = e) :
    m = n ∧ M = N ∧ a = j ∧ er = 0 := by
  cases h with
  | arg h => exact absurd ⟨hc, hs⟩ h
  | there _ _ i hi he =>
    have : i = j := by
      rcases Nat.lt_trichotomy i j with h | h | h
      · exact absurd (he.trans hje.symm) (hc.once i j h hj)
      · exact h
      · exact absurd (hje.trans he.symm) (hc.once j i h hi)
    subst this
    exact ⟨rfl, rfl, rfl, rfl⟩
  | many _ _ h _ => exact absurd hje (h j hj)
  | put _ _ h => exact absurd hje (h j hj)
theorem PutR.full {n : Nat} {N : Nat → Nd} {e : Nd} {most : Int} {m : Nat} {M : Nat → Nd} {a er : Int} (h : PutR n N e most m M a er) (hc : CheckP n N) (hs : StandsP e n) (hne : ∀ i, i < n → N i ≠ e) (hm : most ≤ n) :
    m = 0 ∧ a = 0 ∧ er = 40 := by
  cases h with
  | arg h => exact absurd ⟨hc, hs⟩ h
  | there _ _ i hi he => exact absurd he (hne i hi)
  | many => exact ⟨rfl, rfl, rfl⟩
  | put _ _ _ h => omega
theorem PutR.good {n : Nat} {N : Nat → Nd} {e : Nd} {most : Int} {m : Nat} {M : Nat → Nd} {a : Int} (h : PutR n N e most m M a 0) :
    ∃ j : Nat, a = j ∧ j < m ∧ M j = e ∧ CheckP m M ∧ (n ≤ m ∧ m ≤ n + 1) ∧ (∀ i, i < n → M i = N i) ∧ StandsP e m := by
  obtain ⟨hc, hs, ⟨i, hi, hie, rfl, rfl, rfl⟩ | ⟨hne, _, rfl, rfl, rfl⟩⟩ := h.ok
  · exact ⟨i, rfl, hi, hie, hc, by omega, fun _ _ => rfl, hs⟩
  · exact ⟨n, rfl, by omega, extN_at _ _ _, hc.ext hs hne, by omega, fun i hi => extN_lt hi, hs.mono (by omega)⟩
/-- A number of Int stands anywhere; and so does a node without arguments. -/
theorem stands_num {k : Int} (h : mayB k = true) (at_ : Int) : StandsP ⟨10, 0, 0, 0, 0, 1, 0, k⟩ at_ := by
  have arg : ∀ i, argP ⟨10, 0, 0, 0, 0, 1, 0, k⟩ at_ i := fun i => ⟨fun h => by simp at h; omega, fun _ => by unfold Nd.arg; split <;> rfl⟩
  exact ⟨by show ar 10 ≠ -2; decide, fun _ => by show (0 : Int) = ar 10; decide, by show (0 : Int) ≤ 0; decide, by show (0 : Int) ≤ 3; decide, by show (0 : Int) ≤ 1; decide, by show (1 : Int) < 6; decide, arg 0, arg 1, arg 2, by show (0 : Int) ≤ 0; decide, by show (0 : Int) < 12; decide, fun h => absurd rfl h, fun _ => h, fun h => absurd rfl h⟩
theorem check_new : CheckP 2 newN := by
  refine ⟨Nat.le_refl _, rfl, rfl, fun i hi => ?_, fun i j h1 h2 => ?_⟩
  · have : i = 0 ∨ i = 1 := by omega
    rcases this with rfl | rfl
    · have arg : ∀ i, argP ndT (0 : Nat) i := fun i => ⟨fun h => by simp [ndT] at h; omega, fun _ => by unfold Nd.arg ndT; split <;> rfl⟩
      exact ⟨by show ar 0 ≠ -2; decide, fun _ => by show (0 : Int) = ar 0; decide, by decide, by show (0 : Int) ≤ 3; decide, by decide, by show (0 : Int) < 6; decide, arg 0, arg 1, arg 2, by decide, by show (0 : Int) < 12; decide, fun h => absurd rfl h, fun h => by simp [newN, ndT] at h, fun _ _ _ => rfl⟩
    · exact stands_num (by decide) _
  · have : i = 0 ∧ j = 1 := by omega
    obtain ⟨rfl, rfl⟩ := this
    decide
def num5 : Nd := ⟨10, 0, 0, 0, 0, 1, 0, 5⟩
def num6 : Nd := ⟨10, 0, 0, 0, 0, 1, 0, 6⟩
theorem new_ne (k : Int) (hk : k ≠ 0) : ∀ i, i < 2 → newN i ≠ ⟨10, 0, 0, 0, 0, 1, 0, k⟩ := by
  intro i hi h
  have : i = 0 ∨ i = 1 := by omega
  rcases this with rfl | rfl
  · have := congrArg Nd.op h; exact absurd this (by show ¬ ((0 : Int) = 10); decide)
  · have := congrArg Nd.num h; exact hk this.symm
theorem check_five : CheckP 3 (extN newN 2 num5) := check_new.ext (stands_num (by decide) _) (new_ne 5 (by decide))
theorem five_ne : ∀ i, i < 3 → extN newN 2 num5 i ≠ num6 := by
  intro i hi h
  by_cases h2 : i < 2
  · rw [extN_lt h2] at h; exact new_ne 6 (by decide) i h2 h
  · obtain rfl : i = 2 := by omega
    rw [extN_at] at h; exact absurd h (by decide)
end Go.Proofs.Ytlhnffmbjejphaa
