/- The first place that answers; two strings alike. -/
import Derived.Test.YtecmoahadckomaaZSigMSigLWorldM
import Derived.Test.YtecmoahadckomaaZIntsToNumW
import Derived.BigQuiet
namespace Go.Proofs.Ytecmoahadckomaa

/-- The first place below n that p holds of; -1: none. -/
def firstI : Nat → (Nat → Bool) → Int
  | 0, _ => -1
  | n + 1, p => if firstI n p ≠ -1 then firstI n p else if p n then n else -1
theorem firstI_none {n : Nat} {p : Nat → Bool} (h : ∀ i, i < n → p i = false) : firstI n p = -1 := by
  induction n with
  | zero => rfl
  | succ n ih => rw [firstI, ih fun i hi => h i (by omega), h n (by omega)]; simp
theorem firstI_hit {n j : Nat} {p : Nat → Bool} (hj : j < n) (h : ∀ i, i < j → p i = false) (hp : p j = true) : firstI n p = j := by
  induction n with
  | zero => omega
  | succ n ih =>
    rw [firstI]
    by_cases e : j = n
    · subst e
      rw [firstI_none h, hp]; simp
    · rw [ih (by omega), if_pos (by omega)]
theorem firstI_cases (n : Nat) (p : Nat → Bool) : (firstI n p = -1 ∧ ∀ i, i < n → p i = false) ∨ ∃ j, j < n ∧ firstI n p = j ∧ p j = true ∧ ∀ i, i < j → p i = false := by
  induction n with
  | zero => exact .inl ⟨rfl, fun i hi => absurd hi (Nat.not_lt_zero _)⟩
  | succ n ih =>
    rcases ih with ⟨h1, h2⟩ | ⟨j, hj, h1, h2, h3⟩
    · cases hp : p n with
      | true => exact .inr ⟨n, by omega, by rw [firstI, h1, hp]; simp, hp, h2⟩
      | false => exact .inl ⟨by rw [firstI, h1, hp]; simp, fun i hi => by
          by_cases e : i = n
          · subst e; exact hp
          · exact h2 i (by omega)⟩
    · exact .inr ⟨j, by omega, by rw [firstI, h1, if_pos (by omega)], h2, h3⟩

def eqS (s t : ByteArray) : Bool := s.toList == t.toList
end Go.Proofs.Ytecmoahadckomaa

namespace Go.Proofs.Ytecmoahadckomaa
open Go.RowKit
set_option maxRecDepth 100000
/-- ~ ! @ $ % ^ & * _ - + = < > . ? / -/
def signN (c : Nat) : Bool := decide (65 ≤ c ∧ c ≤ 90) || decide (97 ≤ c ∧ c ≤ 122) || decide (48 ≤ c ∧ c ≤ 57) || [126, 33, 64, 36, 37, 94, 38, 42, 95, 45, 43, 61, 60, 62, 46, 63, 47].contains c
def signB (c : UInt8) : Bool := signN c.toNat
theorem sign_none {c : Nat} (h : 128 ≤ c) : signN c = false := by
  have h1 : [126, 33, 64, 36, 37, 94, 38, 42, 95, 45, 43, 61, 60, 62, 46, 63, 47].contains c = false := by
    rw [Bool.eq_false_iff]
    intro h2
    simp at h2
    omega
  unfold signN
  rw [h1, decide_eq_false (by omega), decide_eq_false (by omega), decide_eq_false (by omega)]; rfl
theorem upTo_first (n : Nat) (p : Nat → Bool) : decide (0 ≤ firstI n p) = !upTo n fun i => !p i := by
  rcases firstI_cases n p with ⟨h1, h2⟩ | ⟨j, hj, h1, h2, _⟩
  · rw [h1, upTo_yes fun i hi => by rw [h2 i hi]; rfl]; rfl
  · rw [h1, upTo_no hj (by rw [h2]; rfl), decide_eq_true (by omega)]; rfl
def digB (c : UInt8) : Bool := decide (48 ≤ c.toNat ∧ c.toNat ≤ 57)
def numS (s : ByteArray) : Bool := decide (s.size ≠ 0) && !(decide (1 < s.size) && decide ((byteAt s 0).toNat = 48)) && upTo s.size fun i => digB (byteAt s i)
theorem isEmpty_size (s : ByteArray) : s.toList.isEmpty = decide (s.size = 0) := by
  rw [Go.ByteArray.toList_eq]
  obtain ⟨⟨l⟩⟩ := s
  cases l with
  | nil => rfl
  | cons a l => rfl
theorem byteAt_get (s : ByteArray) (j : Nat) (h : j < s.size) : byteAt s j = s[j] := by unfold byteAt; simp [List.getD, h]; rfl
/-- What num.Parse hands back: the error tells whether it is a numeral. -/
def ParsedP (s : ByteArray) (e : Ending) : Prop := ∃ n er : Int, e = .returned (.tuple #[.int .i64 n, .int .i64 er]) ∧ (er != 20) = numS s
theorem numS_no {s : ByteArray} {i : Nat} (hi : i < s.size) (h : digB (byteAt s i) = false) : numS s = false := by unfold numS; rw [upTo_no hi h, Bool.and_false]
def digI (c : Int) : Bool := decide (48 ≤ c ∧ c ≤ 57)
def symB (n : Nat) (t : ByteArray) : Bool := decide (n = 0) && mayS t
def nmB (n : Nat) (t : ByteArray) : Bool := decide (n = 0) && numS t && decide (t.size ≤ 100)
def kwB (n : Nat) (t : ByteArray) : Bool := decide (n = 0) && (upTo t.size fun i => signB (byteAt t i)) && decide (t.size ≠ 0) && decide (t.size ≤ 100)
def maxUp : Nat → (Nat → Int) → Int
  | 0, _ => 0
  | n + 1, f => max (maxUp n f) (f n)
theorem maxUp_nonneg (n : Nat) (f : Nat → Int) : 0 ≤ maxUp n f := by
  induction n with
  | zero => exact Int.le_refl _
  | succ n ih => rw [maxUp]; omega
def depX : Sx → Int
  | .nil => 0
  | .mk k _ n l => if k = 3 then wrap64 (maxUp n (fun i => depX (l i)) + 1) else 0
def stX : Sx → Bool
  | .nil => false
  | .mk k t n l => if k = 0 then symB n t else if k = 1 then nmB n t else if k = 2 then kwB n t else if k = 3 then t.toList.isEmpty && upTo n (fun i => stX (l i)) else false
def mayX (x : Sx) : Bool := decide (depX x ≤ 60) && stX x
theorem wrap_R64 (x : Int) : R64 (wrap64 x) := by unfold wrap64 R64; omega
theorem depX_R : ∀ x, R64 (depX x)
  | .nil => ⟨by decide, by decide⟩
  | .mk k _ n l => by
    rw [depX]
    split
    · exact wrap_R64 _
    · exact ⟨by decide, by decide⟩
theorem maxUp_le {n : Nat} {f : Nat → Int} (h : ∀ i, i < n → f i ≤ 9223372036854775807) : maxUp n f ≤ 9223372036854775807 := by
  induction n with
  | zero => show (0 : Int) ≤ _; decide
  | succ n ih => rw [maxUp]; have := ih fun i hi => h i (by omega); have := h n (by omega); omega
theorem SxIs.forms {w : World} {x : Sx} {kv tv lv : Value} (h : SxIs w x kv tv lv) : ∃ kk tt A nn cc, kv = .int .i8 kk ∧ tv = .string tt ∧ lv = .slice A nn cc := by
  cases x with
  | nil => exact h.elim
  | mk k t n l =>
    obtain ⟨rfl, _, rfl, _, A, c, rfl, _⟩ := h.row
    exact ⟨_, _, _, _, _, rfl, rfl, rfl⟩
theorem max_if (m d : Int) : (if m < d then d else m) = max m d := by split <;> omega
def thereB (ns : Nat) (x : Int) : Bool := decide (0 ≤ x ∧ x < (ns : Int) + 2)
theorem thereB_t {ns : Nat} {x : Int} (h : 0 ≤ x ∧ x < (ns : Int) + 2) : thereB ns x = true := decide_eq_true h
theorem thereB_f {ns : Nat} {x : Int} (h : ¬ (0 ≤ x ∧ x < (ns : Int) + 2)) : thereB ns x = false := decide_eq_false h
/-- May the i-th argument's sort be? -/
def fargB (ns : Nat) (f : Fn) (i : Nat) : Bool := if (i : Int) < f.len then thereB ns (f.arg i) else decide (f.arg i = 0)
def funB (ns : Nat) (f : Fn) : Bool := decide (0 ≤ f.len ∧ f.len ≤ 3) && thereB ns f.res && upTo 3 (fargB ns f)
theorem funB_len {ns : Nat} {f : Fn} (h : ¬ (0 ≤ f.len ∧ f.len ≤ 3)) : funB ns f = false := by unfold funB; rw [decide_eq_false h]; rfl
theorem funB_res {ns : Nat} {f : Fn} (h : thereB ns f.res = false) : funB ns f = false := by unfold funB; rw [h, Bool.and_false]; rfl
theorem funB_arg {ns : Nat} {f : Fn} {i : Nat} (hi : i < 3) (h : fargB ns f i = false) : funB ns f = false := by unfold funB; rw [upTo_no hi h, Bool.and_false]
theorem funB_yes {ns : Nat} {f : Fn} (h : 0 ≤ f.len ∧ f.len ≤ 3) (h1 : thereB ns f.res = true) (h2 : ∀ i, i < 3 → fargB ns f i = true) : funB ns f = true := by unfold funB; rw [decide_eq_true h, h1, upTo_yes h2]; rfl
def fbox (w : World) (A : Option Addr) (n c : Nat) (fv mv : Value) (f : Fn) : List (Nat × Nat × Value) :=
  [(w.heap.size + 1, 0, .string f.name), (w.heap.size + 1, 1, .int .i64 f.len), (w.heap.size + 1, 2, .int .i64 f.a0), (w.heap.size + 1, 3, .int .i64 f.a1), (w.heap.size + 1, 4, .int .i64 f.a2), (w.heap.size + 1, 5, .int .i64 f.res),
   (w.heap.size, 0, .slice A n c), (w.heap.size, 1, fv), (w.heap.size, 2, mv)]
theorem run_ixA0 (W : World) (a b c : Int) : (Instr.index 37 (.agg #[.int .i64 a, .int .i64 b, .int .i64 c]) (.int .i64 0)).run Try.prog W = .ok (.int .i64 a) W := by kernel_rfl
theorem run_ixA1 (W : World) (a b c : Int) : (Instr.index 37 (.agg #[.int .i64 a, .int .i64 b, .int .i64 c]) (.int .i64 1)).run Try.prog W = .ok (.int .i64 b) W := by kernel_rfl
theorem run_ixA2 (W : World) (a b c : Int) : (Instr.index 37 (.agg #[.int .i64 a, .int .i64 b, .int .i64 c]) (.int .i64 2)).run Try.prog W = .ok (.int .i64 c) W := by kernel_rfl
theorem run_ixF (f : Fn) (j : Nat) (hj : j < 3) (W : World) : (Instr.index 37 (.agg #[.int .i64 f.a0, .int .i64 f.a1, .int .i64 f.a2]) (.int .i64 j)).run Try.prog W = .ok (.int .i64 (f.arg j)) W := by
  have h : j = 0 ∨ j = 1 ∨ j = 2 := by omega
  rcases h with rfl | rfl | rfl
  · exact run_ixA0 W _ _ _
  · exact run_ixA1 W _ _ _
  · exact run_ixA2 W _ _ _
theorem fbox_len {w x : World} {A : Option Addr} {n c : Nat} {fv mv : Value} {f : Fn} (h : Bx w (fbox w A n c fv mv f) x) : x.cell? ⟨w.heap.size + 1, 1, none⟩ = some (.int .i64 f.len) := h.cells.2.1.1
theorem eqS_iff {s t : ByteArray} : eqS s t = true ↔ s = t := by
  unfold eqS
  rw [Go.ByteArray.toList_eq, Go.ByteArray.toList_eq]
  constructor
  · intro h
    have h' : s.data.toList = t.data.toList := by simpa using h
    exact Go.WideShapes.bytes_inj h'
  · rintro rfl; simp
theorem eqS_self (s : ByteArray) : eqS s s = true := eqS_iff.2 rfl
theorem eqS_ne {s t : ByteArray} (h : s ≠ t) : eqS s t = false := by
  cases he : eqS s t with
  | false => rfl
  | true => exact absurd (eqS_iff.1 he) h
/-- Is s among the first n of these? -/
def amongS (n : Nat) (f : Nat → ByteArray) (s : ByteArray) : Bool := !upTo n fun k => !eqS (f k) s
theorem among_same {n : Nat} {f : Nat → ByteArray} : amongS (n + 1) f (f n) = true := by unfold amongS; rw [upTo, eqS_self]; simp
theorem among_other {n : Nat} {f : Nat → ByteArray} {s : ByteArray} (h : s ≠ f n) : amongS (n + 1) f s = amongS n f s := by unfold amongS; rw [upTo, eqS_ne (fun e => h e.symm)]; simp
def pmB (ns : Nat) (ps : Nat → Pm) (i : Nat) : Bool := !amongS i (fun k => (ps k).name) (ps i).name && useS (ps i).name && thereB ns (ps i).sort
def macB (ns : Nat) (m : Mc) : Bool := upTo m.np (pmB ns m.ps) && decide (m.np ≤ 3) && thereB ns m.res && mayX m.body
theorem macB_pm {ns : Nat} {m : Mc} {i : Nat} (hi : i < m.np) (h : pmB ns m.ps i = false) : macB ns m = false := by unfold macB; rw [upTo_no hi h]; rfl
def mbox (w : World) (A : Option Addr) (n c : Nat) (fv mv v0 v1 v2 v3 v4 v5 : Value) : List (Nat × Nat × Value) :=
  [(w.heap.size + 1, 0, v0), (w.heap.size + 1, 1, v1), (w.heap.size + 1, 2, v2), (w.heap.size + 1, 3, v3), (w.heap.size + 1, 4, v4), (w.heap.size + 1, 5, v5),
   (w.heap.size, 0, .slice A n c), (w.heap.size, 1, fv), (w.heap.size, 2, mv)]
def frB (S : ByteArray × Bool → Bool) (s : ByteArray) (b : Bool) : Bool := useS s && !S (s, b) && (b || !coreS s)
def addN (S : ByteArray × Bool → Bool) (i : ByteArray × Bool) (j : ByteArray × Bool) : Bool := decide (j = i) || S j
def boolS : ByteArray := ⟨#[66, 111, 111, 108]⟩
def intS : ByteArray := ⟨#[73, 110, 116]⟩
theorem boolS_R : StrR boolS := by unfold StrR; decide
theorem intS_R : StrR intS := by unfold StrR; decide
def bltn (j : ByteArray × Bool) : Bool := j.2 && (eqS boolS j.1 || eqS intS j.1)
def SSn (g : Sg) : Nat → ByteArray × Bool → Bool
  | 0 => bltn
  | n + 1 => addN (SSn g n) (g.S n, true)
def SFn (g : Sg) : Nat → ByteArray × Bool → Bool
  | 0 => SSn g g.ns
  | n + 1 => addN (SFn g n) ((g.F n).name, false)
def SMn (g : Sg) : Nat → ByteArray × Bool → Bool
  | 0 => SFn g g.nf
  | n + 1 => addN (SMn g n) ((g.M n).name, false)
def okSn (g : Sg) (i : Nat) : Bool := frB (SSn g i) (g.S i) true
def okFn (g : Sg) (i : Nat) : Bool := frB (SFn g i) (g.F i).name false && funB g.ns (g.F i)
def okMn (g : Sg) (i : Nat) : Bool := frB (SMn g i) (g.M i).name false && macB g.ns (g.M i)
def fewG (g : Sg) : Bool := decide (g.ns ≤ 4) && decide (g.nf ≤ 12) && decide (g.nm ≤ 12)
def checkG (g : Sg) : Bool := fewG g && upTo g.ns (okSn g) && upTo g.nf (okFn g) && upTo g.nm (okMn g)
def chV (b : Bool) : Int := if b then 0 else 2
structure FewG (g : Sg) : Prop where
  ns : g.ns ≤ 1000
  nf : g.nf ≤ 1000
  nm : g.nm ≤ 1000
end Go.Proofs.Ytecmoahadckomaa
