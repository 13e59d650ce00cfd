/- Results that lie in a cell: tables; term.New. -/
import Derived.Test.YtecmoahadckomaaZPlacesTermA
import Derived.Test.YtecmoahadckomaaZStandsRStands
import Derived.Laws.ResultCell
import Derived.Test.YtecmoahadckomaaZFirstSigW
namespace Go.Proofs.Ytecmoahadckomaa
open Go.RowKit Go.Maps

def ndT : Nd := ⟨0, 0, 0, 0, 0, 0, 0, 0⟩
def ndZ : Nd := ⟨10, 0, 0, 0, 0, 1, 0, 0⟩
def newN (i : Nat) : Nd := if i = 0 then ndT else ndZ

theorem run_loadTab (w : World) (g : Nat) (v : Value) (hc : w.cell? ⟨g, 0, none⟩ = some v) : (loadVar 24 ⟨g, 0, none⟩).run Try.prog w = .ok (.agg #[v]) w := by
  go_simp
theorem results_tab {fn : Func} {p : Tmp} (h : fn.results = #[.cell p 24]) (tmps : Array Value) (w : World) (g : Nat) (v : Value)
    (hp : tmps.getD p undef = .pointer (some ⟨g, 0, none⟩)) (hc : w.cell? ⟨g, 0, none⟩ = some v) : (results fn tmps).run Try.prog w = .ok (.agg #[v]) w := by
  have hp' : tmps[p]?.getD undef = .pointer (some ⟨g, 0, none⟩) := by simpa using hp
  simp [results, h, hp', asAddr, run_loadTab w g v hc]
theorem results_tab1 {fn : Func} {p u : Tmp} (h : fn.results = #[.cell p 24, .tmp u]) (tmps : Array Value) (w : World) (g : Nat) (v : Value)
    (hp : tmps.getD p undef = .pointer (some ⟨g, 0, none⟩)) (hc : w.cell? ⟨g, 0, none⟩ = some v) : (results fn tmps).run Try.prog w = .ok (.tuple #[.agg #[v], tmps.getD u undef]) w := by
  have hp' : tmps[p]?.getD undef = .pointer (some ⟨g, 0, none⟩) := by simpa using hp
  simp [results, h, hp', asAddr, run_loadTab w g v hc, Result.andThen]
theorem results_tab2 {fn : Func} {p u x : Tmp} (h : fn.results = #[.cell p 24, .tmp u, .tmp x]) (tmps : Array Value) (w : World) (g : Nat) (v : Value)
    (hp : tmps.getD p undef = .pointer (some ⟨g, 0, none⟩)) (hc : w.cell? ⟨g, 0, none⟩ = some v) : (results fn tmps).run Try.prog w = .ok (.tuple #[.agg #[v], tmps.getD u undef, tmps.getD x undef]) w := by
  have hp' : tmps[p]?.getD undef = .pointer (some ⟨g, 0, none⟩) := by simpa using hp
  simp [results, h, hp', asAddr, run_loadTab w g v hc, Result.andThen]

theorem run_tabField (w : World) (A : Option Addr) (n c : Nat) : (Instr.field 24 (.agg #[.slice A n c]) 0).run Try.prog w = .ok (.slice A n c) w := by kernel_rfl
theorem new_cells (w : World) (t : TypeId) : NdsAt (w.alloc (.cells #[.int .i8 0, .int .i8 0, .int .i64 0, .int .i64 0, .int .i64 0, .int .i64 0, .int .i64 0, .int .i64 0, .int .i8 10, .int .i8 0, .int .i64 0, .int .i64 0, .int .i64 0, .int .i64 1, .int .i64 0, .int .i64 0] t)) (.slice (some ⟨w.heap.size, 0, none⟩) 2 2) 2 newN := by
  refine ⟨_, _, rfl, by omega, fun i hi => ?_, fun _ => ⟨_, 0, rfl, by simp, fun i hi => ?_⟩⟩
  · have : i = 0 ∨ i = 1 := by omega
    rcases this with rfl | rfl <;> (refine ⟨?_, ?_, ?_, ?_, ?_, ?_, ?_, ?_⟩ <;> exact ⟨by decide, by decide⟩)
  · have : i = 0 ∨ i = 1 := by omega
    rcases this with rfl | rfl <;> (refine ⟨?_, ?_, ?_, ?_, ?_, ?_, ?_, ?_⟩ <;> simp [newN, ndT, ndZ])

theorem New_any (w : World) : Calls Try.prog 20 #[] w fun e w' => ∃ v, e = .returned (.agg #[v]) ∧ NdsAt w' v 2 newN ∧ Below w.heap.size w w' := by
  go_enter Try.func20, Try.ntmps20
  go_wp2
  refine bodyPost_ret (results_tab rfl _ _ w.heap.size (.slice (some ⟨w.heap.size + 1, 0, none⟩) 2 2) rfl (by simp)) rfl ⟨_, rfl, ?_, ((Below.refl _ _).alloc (Nat.le_refl _) _).alloc (by simp) _⟩
  have := new_cells (w.alloc (.cells #[.slice (some ⟨w.heap.size + 1, 0, none⟩) 2 2] 24)) 39
  simpa using this
end Go.Proofs.Ytecmoahadckomaa

namespace Go.Proofs.Ytecmoahadckomaa
open Go.RowKit Go.Maps

structure CheckP (n : Nat) (N : Nat → Nd) : Prop where
  two : 2 ≤ n
  tt : N 0 = ndT
  zz : N 1 = ndZ
  all : ∀ i, i < n → StandsP (N i) i
  once : OnceN N n
noncomputable def checkB (n : Nat) (N : Nat → Nd) : Bool := @decide (CheckP n N) (Classical.propDecidable _)
noncomputable def checkT (n : Nat) (N : Nat → Nd) : Int := if checkB n N then 0 else 2
theorem check_yes {n : Nat} {N : Nat → Nd} (h : CheckP n N) : checkT n N = 0 := by
  have : checkB n N = true := by unfold checkB; exact @decide_eq_true _ (Classical.propDecidable _) h
  unfold checkT; rw [this]; rfl
theorem check_not {n : Nat} {N : Nat → Nd} (h : ¬ CheckP n N) : checkT n N = 2 := by
  have : checkB n N = false := by unfold checkB; exact @decide_eq_false _ (Classical.propDecidable _) h
  unfold checkT; rw [this]; rfl
theorem check_zero {n : Nat} {N : Nat → Nd} (h : checkT n N = 0) : CheckP n N := by
  rcases Classical.em (CheckP n N) with h1 | h1
  · exact h1
  · rw [check_not h1] at h; exact absurd h (by decide)
theorem same_new {N : Nat → Nd} : sameN 2 N 2 newN = true ↔ N 0 = ndT ∧ N 1 = ndZ := by
  unfold sameN
  rw [Bool.and_eq_true, eqN_iff]
  constructor
  · rintro ⟨_, h⟩; exact ⟨h 0 (by omega), h 1 (by omega)⟩
  · rintro ⟨h0, h1⟩
    refine ⟨by decide, fun i hi => ?_⟩
    have : i = 0 ∨ i = 1 := by omega
    rcases this with rfl | rfl
    · exact h0
    · exact h1

theorem same_iff {n m : Nat} {N M : Nat → Nd} : sameN n N m M = true ↔ n = m ∧ ∀ i, i < n → N i = M i := by
  unfold sameN
  rw [Bool.and_eq_true, eqN_iff, decide_eq_true_eq]
theorem same_yes {n : Nat} {N M : Nat → Nd} (h : ∀ i, i < n → N i = M i) : sameN n N n M = true := same_iff.2 ⟨rfl, h⟩
/-- One node more. -/
def extN (N : Nat → Nd) (n : Nat) (e : Nd) (i : Nat) : Nd := if i < n then N i else e
theorem extN_lt {N : Nat → Nd} {n i : Nat} {e : Nd} (h : i < n) : extN N n e i = N i := if_pos h
theorem extN_at (N : Nat → Nd) (n : Nat) (e : Nd) : extN N n e n = e := if_neg (Nat.lt_irrefl n)
theorem CheckP.congr {n : Nat} {N M : Nat → Nd} (h : CheckP n N) (e : ∀ i, i < n → N i = M i) : CheckP n M := by
  have h2 := h.two
  exact ⟨h2, by rw [← e 0 (by omega)]; exact h.tt, by rw [← e 1 (by omega)]; exact h.zz, fun i hi => by rw [← e i hi]; exact h.all i hi, fun i j h1 h2 => by rw [← e i (by omega), ← e j h2]; exact h.once i j h1 h2⟩
theorem CheckP.cut {n k : Nat} {N : Nat → Nd} (h : CheckP n N) (h2 : 2 ≤ k) (hk : k ≤ n) : CheckP k N :=
  ⟨h2, h.tt, h.zz, fun i hi => h.all i (by omega), fun i j h1 h2 => h.once i j h1 (by omega)⟩
theorem CheckP.ext {n : Nat} {N : Nat → Nd} {e : Nd} (h : CheckP n N) (hs : StandsP e n) (hne : ∀ i, i < n → N i ≠ e) : CheckP (n + 1) (extN N n e) := by
  have h2 := h.two
  refine ⟨by omega, ?_, ?_, fun i hi => ?_, fun i j h1 h2 => ?_⟩
  · rw [extN_lt (by omega)]; exact h.tt
  · rw [extN_lt (by omega)]; exact h.zz
  · by_cases hin : i < n
    · rw [extN_lt hin]; exact h.all i hin
    · obtain rfl : i = n := by omega
      rw [extN_at]; exact hs
  · rw [extN_lt (show i < n by omega)]
    by_cases hjn : j < n
    · rw [extN_lt hjn]; exact h.once i j h1 hjn
    · obtain rfl : j = n := by omega
      rw [extN_at]; exact hne i h1
theorem StandsP.mono {e : Nd} {a b : Int} (h : StandsP e a) (hab : a ≤ b) : StandsP e b := by
  have arg : ∀ i, argP e a i → argP e b i := fun i hi => ⟨fun g => ⟨(hi.1 g).1, by have := (hi.1 g).2; omega⟩, hi.2⟩
  exact ⟨h.kind, h.len, h.len0, h.len3, h.sort0, h.sort6, arg _ h.arg0, arg _ h.arg1, arg _ h.arg2, h.fn0, h.fn12, h.app, h.num, h.num0⟩
/-- What putting e into the n nodes N gives: m nodes M, the place at_, the error er. -/
inductive PutR (n : Nat) (N : Nat → Nd) (e : Nd) (most : Int) : Nat → (Nat → Nd) → Int → Int → Prop
  | arg (h : ¬ (CheckP n N ∧ StandsP e n)) (M : Nat → Nd) : PutR n N e most 0 M 0 2
  | there (h : CheckP n N) (hs : StandsP e n) (i : Nat) (hi : i < n) (he : N i = e) : PutR n N e most n N i 0
  | many (h : CheckP n N) (hs : StandsP e n) (hne : ∀ i, i < n → N i ≠ e) (hm : most ≤ n) (M : Nat → Nd) : PutR n N e most 0 M 0 40
  | put (h : CheckP n N) (hs : StandsP e n) (hne : ∀ i, i < n → N i ≠ e) (hm : (n : Int) < most) : PutR n N e most (n + 1) (extN N n e) n 0
/-- What cutting at k gives. -/
inductive CutR (n : Nat) (N : Nat → Nd) (k : Int) : Nat → Int → Prop
  | arg (h : ¬ (CheckP n N ∧ 2 ≤ k ∧ k ≤ n)) : CutR n N k 0 2
  | cut (h : CheckP n N) (h2 : 2 ≤ k) (hk : k ≤ n) (j : Nat) (hj : k = j) : CutR n N k j 0
theorem PutR.ok {n : Nat} {N : Nat → Nd} {e : Nd} {most : Int} {m : Nat} {M : Nat → Nd} {a : Int} (h : PutR n N e most m M a 0) :
    CheckP n N ∧ StandsP e n ∧ ((∃ i : Nat, i < n ∧ N i = e ∧ m = n ∧ M = N ∧ a = i) ∨ ((∀ i, i < n → N i ≠ e) ∧ (n : Int) < most ∧ m = n + 1 ∧ M = extN N n e ∧ a = n)) := by
  cases h with
  | there h hs i hi he => exact ⟨h, hs, .inl ⟨i, hi, he, rfl, rfl, rfl⟩⟩
  | put h hs hne hm => exact ⟨h, hs, .inr ⟨hne, hm, rfl, rfl, rfl⟩⟩
theorem PutR.fails {n : Nat} {N : Nat → Nd} {e : Nd} {most : Int} {m : Nat} {M : Nat → Nd} {a er : Int} (h : PutR n N e most m M a er) (he : er ≠ 0) : m = 0 := by
  cases h with
  | arg => rfl
  | many => rfl
  | there => exact absurd rfl he
  | put => exact absurd rfl he
theorem PutR.new {n : Nat} {N : Nat → Nd} {e : Nd} {most : Int} {m : Nat} {M : Nat → Nd} {a er : Int} (h : PutR n N e most m M a er) (hc : CheckP n N) (hs : StandsP e n) (hne : ∀ i, i < n → N i ≠ e) (hm : (n : Int) < most) :
    m = n + 1 ∧ M = extN N n e ∧ a = n ∧ er = 0 := by
  cases h with
  | arg h => exact absurd ⟨hc, hs⟩ h
  | there _ _ i hi he => exact absurd he (hne i hi)
  | many _ _ _ h => omega
  | put => exact ⟨rfl, rfl, rfl, rfl⟩
theorem PutR.old {n : Nat} {N : Nat → Nd} {e : Nd} {most : Int} {m : Nat} {M : Nat → Nd} {a er : Int} (h : PutR n N e most m M a er) (hc : CheckP n N) (hs : StandsP e n) (j : Nat) (hj : j < n) (hje : N j = e) :
    m = n ∧ M = N ∧ a = j ∧ er = 0 := by
  cases h with
  | arg h => exact absurd ⟨hc, hs⟩ h
  | there _ _ i hi he =>
    have : i = j := by
      rcases Nat.lt_trichotomy i j with h | h | h
      · exact absurd (he.trans hje.symm) (hc.once i j h hj)
      · exact h
      · exact absurd (hje.trans he.symm) (hc.once j i h hi)
    subst this
    exact ⟨rfl, rfl, rfl, rfl⟩
  | many _ _ h _ => exact absurd hje (h j hj)
  | put _ _ h => exact absurd hje (h j hj)
theorem PutR.full {n : Nat} {N : Nat → Nd} {e : Nd} {most : Int} {m : Nat} {M : Nat → Nd} {a er : Int} (h : PutR n N e most m M a er) (hc : CheckP n N) (hs : StandsP e n) (hne : ∀ i, i < n → N i ≠ e) (hm : most ≤ n) :
    m = 0 ∧ a = 0 ∧ er = 40 := by
  cases h with
  | arg h => exact absurd ⟨hc, hs⟩ h
  | there _ _ i hi he => exact absurd he (hne i hi)
  | many => exact ⟨rfl, rfl, rfl⟩
  | put _ _ _ h => omega
theorem PutR.good {n : Nat} {N : Nat → Nd} {e : Nd} {most : Int} {m : Nat} {M : Nat → Nd} {a : Int} (h : PutR n N e most m M a 0) :
    ∃ j : Nat, a = j ∧ j < m ∧ M j = e ∧ CheckP m M ∧ (n ≤ m ∧ m ≤ n + 1) ∧ (∀ i, i < n → M i = N i) ∧ StandsP e m := by
  obtain ⟨hc, hs, ⟨i, hi, hie, rfl, rfl, rfl⟩ | ⟨hne, _, rfl, rfl, rfl⟩⟩ := h.ok
  · exact ⟨i, rfl, hi, hie, hc, by omega, fun _ _ => rfl, hs⟩
  · exact ⟨n, rfl, by omega, extN_at _ _ _, hc.ext hs hne, by omega, fun i hi => extN_lt hi, hs.mono (by omega)⟩
/-- A number of Int stands anywhere; and so does a node without arguments. -/
theorem stands_num {k : Int} (h : mayB k = true) (at_ : Int) : StandsP ⟨10, 0, 0, 0, 0, 1, 0, k⟩ at_ := by
  have arg : ∀ i, argP ⟨10, 0, 0, 0, 0, 1, 0, k⟩ at_ i := fun i => ⟨fun h => by simp at h; omega, fun _ => by unfold Nd.arg; split <;> rfl⟩
  exact ⟨by show ar 10 ≠ -2; decide, fun _ => by show (0 : Int) = ar 10; decide, by show (0 : Int) ≤ 0; decide, by show (0 : Int) ≤ 3; decide, by show (0 : Int) ≤ 1; decide, by show (1 : Int) < 6; decide, arg 0, arg 1, arg 2, by show (0 : Int) ≤ 0; decide, by show (0 : Int) < 12; decide, fun h => absurd rfl h, fun _ => h, fun h => absurd rfl h⟩
theorem check_new : CheckP 2 newN := by
  refine ⟨Nat.le_refl _, rfl, rfl, fun i hi => ?_, fun i j h1 h2 => ?_⟩
  · have : i = 0 ∨ i = 1 := by omega
    rcases this with rfl | rfl
    · have arg : ∀ i, argP ndT (0 : Nat) i := fun i => ⟨fun h => by simp [ndT] at h; omega, fun _ => by unfold Nd.arg ndT; split <;> rfl⟩
      exact ⟨by show ar 0 ≠ -2; decide, fun _ => by show (0 : Int) = ar 0; decide, by decide, by show (0 : Int) ≤ 3; decide, by decide, by show (0 : Int) < 6; decide, arg 0, arg 1, arg 2, by decide, by show (0 : Int) < 12; decide, fun h => absurd rfl h, fun h => by simp [newN, ndT] at h, fun _ _ _ => rfl⟩
    · exact stands_num (by decide) _
  · have : i = 0 ∧ j = 1 := by omega
    obtain ⟨rfl, rfl⟩ := this
    decide
def num5 : Nd := ⟨10, 0, 0, 0, 0, 1, 0, 5⟩
def num6 : Nd := ⟨10, 0, 0, 0, 0, 1, 0, 6⟩
theorem new_ne (k : Int) (hk : k ≠ 0) : ∀ i, i < 2 → newN i ≠ ⟨10, 0, 0, 0, 0, 1, 0, k⟩ := by
  intro i hi h
  have : i = 0 ∨ i = 1 := by omega
  rcases this with rfl | rfl
  · have := congrArg Nd.op h; exact absurd this (by show ¬ ((0 : Int) = 10); decide)
  · have := congrArg Nd.num h; exact hk this.symm
theorem check_five : CheckP 3 (extN newN 2 num5) := check_new.ext (stands_num (by decide) _) (new_ne 5 (by decide))
theorem five_ne : ∀ i, i < 3 → extN newN 2 num5 i ≠ num6 := by
  intro i hi h
  by_cases h2 : i < 2
  · rw [extN_lt h2] at h; exact new_ne 6 (by decide) i h2 h
  · obtain rfl : i = 2 := by omega
    rw [extN_at] at h; exact absurd h (by decide)
end Go.Proofs.Ytecmoahadckomaa

namespace Go.Proofs.Ytecmoahadckomaa
open Go.RowKit
set_option maxRecDepth 100000
def tyK (op : Int) : Bool := decide (0 ≤ op ∧ op < 13)
def tyN (op : Int) : Int := if op = 0 ∨ op = 10 then 0 else if op = 1 ∨ op = 11 then 1 else if op = 7 then 3 else 2
def tyA (op : Int) : Int := if op = 0 ∨ op = 6 ∨ op = 7 ∨ op = 10 then -1 else if op = 8 ∨ op = 9 ∨ op = 11 ∨ op = 12 then 1 else 0
def tyR (op : Int) : Int := if op = 7 then -1 else if op = 10 ∨ op = 11 then 1 else 0
theorem tyop_cases {op : Int} (h : tyK op = true) : op = 0 ∨ op = 1 ∨ op = 2 ∨ op = 3 ∨ op = 4 ∨ op = 5 ∨ op = 6 ∨ op = 7 ∨ op = 8 ∨ op = 9 ∨ op = 10 ∨ op = 11 ∨ op = 12 := by
  unfold tyK at h
  simp at h
  omega
def alikeB (m : Nat) (f : Nat → Int) : Bool := (List.range m).all fun i => f i == f 0
theorem alike_yes {m : Nat} {f : Nat → Int} (h : ∀ i, i < m → f i = f 0) : alikeB m f = true := by unfold alikeB; rw [List.all_eq_true]; intro i hi; simp [h i (List.mem_range.1 hi)]
theorem alike_no {m i : Nat} {f : Nat → Int} (hi : i < m) (h : f i ≠ f 0) : alikeB m f = false := by
  unfold alikeB
  rw [List.all_eq_false]
  exact ⟨i, List.mem_range.2 hi, by simpa using h⟩
def negS (m : Nat) (f : Nat → Int) : Bool := (List.range m).any fun i => decide (f i < 0)
theorem neg_yes {m i : Nat} {f : Nat → Int} (hi : i < m) (h : f i < 0) : negS m f = true := by
  unfold negS
  rw [List.any_eq_true]
  exact ⟨i, List.mem_range.2 hi, decide_eq_true h⟩
theorem neg_no {m : Nat} {f : Nat → Int} (h : ∀ i, i < m → 0 ≤ f i) : negS m f = false := by
  unfold negS
  rw [List.any_eq_false]
  intro i hi
  have := h i (List.mem_range.1 hi)
  simp; omega
/-- The sort that a kind has of sorts, and the error: behind the first look. -/
def tailT (op : Int) (k : Nat) (g : Nat → Int) : Int × Int :=
  if alikeB k g = false then (0, 33)
  else if 0 < k ∧ tyA op ≠ -1 ∧ g 0 ≠ tyA op then (0, 33)
  else if tyR op = -1 then (g 0, 0) else (tyR op, 0)
def opT (op : Int) (m : Nat) (f : Nat → Int) : Int × Int :=
  if tyK op = false then (0, 2)
  else if (m : Int) ≠ tyN op then (0, 2)
  else if op = 7 ∧ f 0 ≠ 0 then (0, 33)
  else if negS m f = true then (0, 33)
  else if op = 7 then tailT op (m - 1) (fun i => f (1 + i)) else tailT op m f
def opV (p : Int × Int) : Value := .tuple #[.int .i64 p.1, .int .i64 p.2]
theorem tyN_le (op : Int) : 0 ≤ tyN op ∧ tyN op ≤ 3 := by unfold tyN; split <;> (try split) <;> (try split) <;> omega
theorem tyR_free {op : Int} (h : op ≠ 7) : tyR op ≠ -1 := by unfold tyR; rw [if_neg h]; split <;> omega
def CapOk (v : Value) : Prop := ∀ A n c, v = .slice A n c → n ≤ c ∧ c ≤ 9223372036854775807
theorem opT7 {m : Nat} {f : Nat → Int} : opT 7 m f = if m ≠ 3 then (0, 2) else if f 0 ≠ 0 then (0, 33) else if negS m f = true then (0, 33) else if f 2 = f 1 then (f 1, 0) else (0, 33) := by
  have k7 : tyK 7 = true := by decide
  have n7 : tyN 7 = 3 := by decide
  have a7 : tyA 7 = -1 := by decide
  have r7 : tyR 7 = -1 := by decide
  by_cases hm : m = 3
  · subst hm
    by_cases h0 : f 0 = 0
    · by_cases hn : negS 3 f = true
      · simp [opT, k7, n7, h0, hn]
      · have hal : alikeB 2 (fun i => f (1 + i)) = (f 2 == f 1) := by unfold alikeB; simp [List.range, List.range.loop]
        by_cases he : f 2 = f 1
        · simp [opT, k7, n7, h0, hn, tailT, a7, r7, hal, he]
        · simp [opT, k7, n7, h0, hn, tailT, hal, he]
    · simp [opT, k7, n7, h0]
  · have hm' : ¬ ((m : Int) = 3) := by omega
    simp [opT, k7, n7, hm, hm']
/-- The sorts are the function's arguments. -/
def argsB (f : Fn) (m : Nat) (S : Nat → Int) : Bool := (List.range m).all fun i => S i == f.arg i
theorem args_yes {f : Fn} {m : Nat} {S : Nat → Int} (h : ∀ i, i < m → S i = f.arg i) : argsB f m S = true := by unfold argsB; rw [List.all_eq_true]; intro i hi; simp [h i (List.mem_range.1 hi)]
theorem args_no {f : Fn} {m i : Nat} {S : Nat → Int} (hi : i < m) (h : S i ≠ f.arg i) : argsB f m S = false := by
  unfold argsB
  rw [List.all_eq_false]
  exact ⟨i, List.mem_range.2 hi, by simpa using h⟩
def appT (g : Sg) (f : Int) (m : Nat) (S : Nat → Int) : Int × Int :=
  if checkG g = false then (0, 2)
  else if f < 0 ∨ (g.nf : Int) ≤ f then (0, 2)
  else if (m : Int) ≠ (g.F f.toNat).len then (0, 2)
  else if argsB (g.F f.toNat) m S = true then ((g.F f.toNat).res, 0) else (0, 33)
theorem check_fun {g : Sg} (h : checkG g = true) {i : Nat} (hi : i < g.nf) : funB g.ns (g.F i) = true := by
  unfold checkG at h
  simp only [Bool.and_eq_true] at h
  have := (upTo_iff _ _).1 h.1.2 i hi
  unfold okFn at this
  simp only [Bool.and_eq_true] at this
  exact this.2
theorem check_len {g : Sg} (h : checkG g = true) {i : Nat} (hi : i < g.nf) : 0 ≤ (g.F i).len ∧ (g.F i).len ≤ 3 := by
  have := check_fun h hi
  unfold funB at this
  simp only [Bool.and_eq_true, decide_eq_true_eq] at this
  exact this.1.1
def sortsN (N : Nat → Nd) (e : Nd) (i : Nat) : Int := (N (e.arg i).toNat).sort
/-- The sort that a node has, its Args standing in a table; and whether it has one. -/
def nodeT (g : Sg) (N : Nat → Nd) (e : Nd) : Int × Int := if e.op = 13 then appT g e.fn e.len.toNat (sortsN N e) else opT e.op e.len.toNat (sortsN N e)
/-- The node's Args stand in a table of n nodes. -/
structure InT (n : Nat) (e : Nd) : Prop where
  R : NdR e
  len0 : 0 ≤ e.len
  len3 : e.len ≤ 3
  arg : ∀ i : Nat, (i : Int) < e.len → 0 ≤ e.arg i ∧ e.arg i < n
def sortV (p : Int × Int) : Value := .tuple #[.int .i64 p.1, .bool (p.2 == 0)]
theorem own3 (w : World) (base : Nat) (hb : base ≤ w.heap.size) : OwnL (w.alloc (.cells #[.int .i64 0, .int .i64 0, .int .i64 0] 3)) base (.slice (some ⟨w.heap.size, 0, none⟩) 0 3) [] :=
  World.ownsRow_made w _ 3 hb (by unfold maxLen; omega) rfl
theorem cellsK.under {K : List (Nat × Nat × Value)} {B : Nat} {x y : World} (h : cellsK K x) (hb : Below B x y) (hK : ∀ a ∈ K, a.1 < B) : cellsK K y := by
  induction K with
  | nil => trivial
  | cons a K ih =>
    obtain ⟨b, o, v⟩ := a
    obtain ⟨⟨h0, h1⟩, h2⟩ := h
    exact ⟨⟨(hb.cell (p := ⟨b, o, none⟩) (hK (b, o, v) (by simp))).trans h0, Nat.lt_of_lt_of_le h1 hb.size⟩, ih h2 fun a ha => hK a (by simp [ha])⟩
theorem Bx.under {K : List (Nat × Nat × Value)} {B : Nat} {w x y : World} (h : Bx w K x) (hb : Below B x y) (hK : ∀ a ∈ K, a.1 < B) (hw : w.heap.size ≤ B) : Bx w K y :=
  ⟨h.cells.under hb hK, h.bel.trans (hb.mono hw)⟩
theorem range_snoc {f : Nat → Int} {j : Nat} : (List.range (j + 1)).map f = (List.range j).map f ++ [f j] := by rw [List.range_succ, List.map_append]; rfl
theorem OwnL.capOk {w : World} {b : Nat} {v : Value} {xs : List Int} (h : OwnL w b v xs) : CapOk v := by
  intro A n c hv
  rcases h.2 with ⟨rfl, _⟩ | ⟨g, cap, cur, rfl, _, _, h1, h2, _⟩
  · injection hv with _ e1 e2; omega
  · injection hv with _ e1 e2
    unfold maxLen at h2
    omega
/-- The node e, behind the nodes N, has the sort that it says. -/
def okNd (g : Sg) (N : Nat → Nd) (e : Nd) : Bool := ((nodeT g N e).2 == 0) && ((nodeT g N e).1 == e.sort)
noncomputable def tabT (g : Sg) (n : Nat) (N : Nat → Nd) : Int := if checkG g = false then 2 else if checkT n N ≠ 0 then 2 else if upTo n (fun i => okNd g N (N i)) = true then 0 else 33
theorem InT.of {n : Nat} {e : Nd} (hR : NdR e) {at_ : Int} (h : StandsP e at_) (ha : at_ ≤ n) : InT n e := by
  refine ⟨hR, h.len0, h.len3, fun i hi => ?_⟩
  have h3 := h.len3
  match i with
  | 0 => have := h.arg0.1 hi; omega
  | 1 => have := h.arg1.1 hi; omega
  | 2 => have := h.arg2.1 hi; omega
  | i + 3 => omega
theorem check_cases (n : Nat) (N : Nat → Nd) : checkT n N = 0 ∨ checkT n N = 2 := by
  rcases Classical.em (CheckP n N) with h | h
  · exact .inl (check_yes h)
  · exact .inr (check_not h)
def ndK (b : Nat) (e : Nd) : List (Nat × Nat × Value) := rowK b [.int .i8 e.op, .int .i8 e.len, .int .i64 e.a0, .int .i64 e.a1, .int .i64 e.a2, .int .i64 e.sort, .int .i64 e.fn, .int .i64 e.num] 0
theorem ndK_sort {b : Nat} {e : Nd} {x : World} {K : List (Nat × Nat × Value)} (h : cellsK (ndK b e ++ K) x) : x.cell? ⟨b, 5, none⟩ = some (.int .i64 e.sort) := h.2.2.2.2.2.1.1
end Go.Proofs.Ytecmoahadckomaa
