/- Plain words: which worlds may be, what a function tells (no program's text is walked here). -/
import Derived.Test.YtecmoahadckomaaZFirstSigW
import Derived.Test.YtecmoahadckomaaZSigMSigLWorldM
import Derived.Test.YtecmoahadckomaaZIntsToNumW
import Derived.Laws.Rows
import Derived.Deep.WholeRow
namespace Go.Proofs.Ytecmoahadckomaa
open Go.RowKit
set_option maxRecDepth 100000
/-- Is v a value of the sort s, in the world W, under a signature of ns sorts? -/
def isB (ns : Nat) (W : Wd) (s v : Int) : Bool :=
  if W.nz ≠ ns then false else if s < 0 then false else if (W.nz : Int) + 2 ≤ s then false
  else if s = 0 then decide (0 ≤ v ∧ v ≤ 1) else if s = 1 then mayB v else decide (0 ≤ v ∧ v < W.Z (s - 2).toNat)
def fitB1 (ns : Nat) (W : Wd) (f : Fn) (a : Nat → Int) (i : Nat) : Bool := if (i : Int) < f.len then isB ns W (f.arg i) (a i) else decide (a i = 0)
/-- Are they values of the function's arguments? -/
def fitB (ns : Nat) (W : Wd) (f : Fn) (a : Nat → Int) : Bool := fitB1 ns W f a 0 && (fitB1 ns W f a 1 && fitB1 ns W f a 2)
def a3 (x y z : Int) (i : Nat) : Int := match i with | 0 => x | 1 => y | _ => z
theorem fit_no {ns : Nat} {W : Wd} {f : Fn} {a : Nat → Int} {i : Nat} (hi : i < 3) (h : fitB1 ns W f a i = false) : fitB ns W f a = false := by
  unfold fitB
  have : i = 0 ∨ i = 1 ∨ i = 2 := by omega
  rcases this with rfl | rfl | rfl <;> rw [h] <;> simp
theorem fit_yes {ns : Nat} {W : Wd} {f : Fn} {a : Nat → Int} (h : ∀ i, i < 3 → fitB1 ns W f a i = true) : fitB ns W f a = true := by
  unfold fitB; rw [h 0 (by omega), h 1 (by omega), h 2 (by omega)]; rfl
structure K3 where
  a0 : Int
  a1 : Int
  a2 : Int
deriving DecidableEq
structure K3R (k : K3) : Prop where
  a0 : R64 k.a0
  a1 : R64 k.a1
  a2 : R64 k.a2
def Rw.key (r : Rw) : K3 := ⟨r.a0, r.a1, r.a2⟩
theorem RwR.key {r : Rw} (h : RwR r) : K3R r.key := ⟨h.a0, h.a1, h.a2⟩
def k3C (k : K3) : List Value := [.int .i64 k.a0, .int .i64 k.a1, .int .i64 k.a2]
def k3V (k : K3) : Value := .agg #[.int .i64 k.a0, .int .i64 k.a1, .int .i64 k.a2]
theorem k3V_inj {e f : K3} (h : k3V e = k3V f) : e = f := by
  obtain ⟨x0, x1, x2⟩ := e
  obtain ⟨y0, y1, y2⟩ := f
  simp [k3V] at h
  simp [h]
def placeR (R : Nat → Rw) : Nat → K3 → Option Int
  | 0, _ => none
  | k + 1, e => if e = (R k).key then some (k : Int) else placeR R k e
def cntR (R : Nat → Rw) : Nat → Nat
  | 0 => 0
  | k + 1 => if (placeR R k (R k).key).isSome then cntR R k else cntR R k + 1
theorem cntR_le (R : Nat → Rw) (k : Nat) : cntR R k ≤ k := by
  induction k with
  | zero => exact Nat.le_refl _
  | succ k ih => unfold cntR; split <;> omega
theorem placeR_none (R : Nat → Rw) (k : Nat) (e : K3) : placeR R k e = none ↔ ∀ i, i < k → (R i).key ≠ e := by
  induction k with
  | zero => simp [placeR]
  | succ k ih =>
    unfold placeR
    by_cases h : e = (R k).key
    · rw [if_pos h]
      constructor
      · intro h'; cases h'
      · intro h'; exact absurd h.symm (h' k (by omega))
    · rw [if_neg h, ih]
      constructor
      · intro h' i hi
        by_cases ei : i = k
        · subst ei; exact fun h'' => h h''.symm
        · exact h' i (by omega)
      · exact fun h' i hi => h' i (by omega)
theorem placeR_some (R : Nat → Rw) (k : Nat) (e : K3) (x : Int) (h : placeR R k e = some x) : ∃ i, i < k ∧ (R i).key = e ∧ x = i := by
  induction k with
  | zero => cases h
  | succ k ih =>
    unfold placeR at h
    split at h
    · next h' => injection h with h; exact ⟨k, by omega, h'.symm, h.symm⟩
    · obtain ⟨i, h1, h2, h3⟩ := ih h
      exact ⟨i, by omega, h2, h3⟩
def OnceR (R : Nat → Rw) (n : Nat) : Prop := ∀ i j, i < j → j < n → (R i).key ≠ (R j).key
theorem cntR_iff (R : Nat → Rw) (k : Nat) : cntR R k = k ↔ OnceR R k := by
  induction k with
  | zero => exact ⟨fun _ i j h1 h2 => by omega, fun _ => rfl⟩
  | succ k ih =>
    have hle := cntR_le R k
    unfold cntR
    cases hp : placeR R k (R k).key with
    | some x =>
      simp only [Option.isSome_some, if_true]
      constructor
      · intro h; omega
      · intro h
        obtain ⟨i, h1, h2, _⟩ := placeR_some R k _ x hp
        exact absurd h2 (h i k h1 (by omega))
    | none =>
      simp only [Option.isSome_none, Bool.false_eq_true, if_false]
      have hno := (placeR_none R k _).1 hp
      constructor
      · intro h i j h1 h2
        by_cases e : j = k
        · subst e; exact hno i h1
        · exact ih.1 (by omega) i j h1 (by omega)
      · intro h
        rw [ih.2 fun i j h1 h2 => h i j h1 (by omega)]
def sizeB (z : Int) : Bool := decide (1 ≤ z ∧ z ≤ 1000)
def rowOkB (ns : Nat) (W : Wd) (fn : Fn) (f : Fv) (k : Nat) : Bool := fitB ns W fn (a3 (f.R k).a0 (f.R k).a1 (f.R k).a2) && isB ns W fn.res (f.R k).val
/-- May a function's values be? -/
def fvB (ns : Nat) (W : Wd) (fn : Fn) (f : Fv) : Bool := decide (cntR f.R f.nr = f.nr) && (decide (f.nr ≤ 400) && (isB ns W fn.res f.els && upTo f.nr (rowOkB ns W fn f)))
/-- May a world be? -/
def mayW (g : Sg) (W : Wd) : Bool := checkG g && (decide (W.nz = g.ns) && (decide (W.nf = g.nf) && (upTo W.nz (fun i => sizeB (W.Z i)) && upTo W.nf (fun i => fvB g.ns W (g.F i) (W.F i)))))
structure FewW (W : Wd) : Prop where
  nz : W.nz ≤ 1000000
  nf : W.nf ≤ 1000000
  nr : ∀ i, i < W.nf → (W.F i).nr ≤ 1000000
theorem fv_once {ns : Nat} {W : Wd} {fn : Fn} {f : Fv} (h : cntR f.R f.nr ≠ f.nr) : fvB ns W fn f = false := by unfold fvB; rw [decide_eq_false h]; rfl
theorem fv_many {ns : Nat} {W : Wd} {fn : Fn} {f : Fv} (h : ¬ f.nr ≤ 400) : fvB ns W fn f = false := by unfold fvB; rw [decide_eq_false h]; simp
theorem fv_else {ns : Nat} {W : Wd} {fn : Fn} {f : Fv} (h : isB ns W fn.res f.els = false) : fvB ns W fn f = false := by unfold fvB; rw [h]; simp
theorem fv_row {ns : Nat} {W : Wd} {fn : Fn} {f : Fv} {k : Nat} (hk : k < f.nr) (h : rowOkB ns W fn f k = false) : fvB ns W fn f = false := by unfold fvB; rw [upTo_no hk h]; simp
theorem fv_yes {ns : Nat} {W : Wd} {fn : Fn} {f : Fv} (h0 : cntR f.R f.nr = f.nr) (h1 : f.nr ≤ 400) (h2 : isB ns W fn.res f.els = true) (h3 : ∀ k, k < f.nr → rowOkB ns W fn f k = true) : fvB ns W fn f = true := by
  unfold fvB; rw [decide_eq_true h0, decide_eq_true h1, h2, upTo_yes h3]; rfl
theorem RowAt.cells_at {k : Nat} {C : World → Nat → Nat → Nat → Prop} {w : World} {v : Value} {n : Nat} (h : RowAt k C w v n) {i : Nat} (hi : i < n) : ∃ b o c, v = .slice (some ⟨b, o, none⟩) n c ∧ b < w.heap.size ∧ C w b (o + i * k) i := by
  obtain ⟨A, c, rfl, _, hc⟩ := h
  obtain ⟨b, o, rfl, hb, hc⟩ := hc (by omega)
  exact ⟨b, o, c, rfl, hb, hc i hi⟩
def rwK (b : Nat) (r : Rw) : List (Nat × Nat × Value) := rowK b [.int .i64 r.a0, .int .i64 r.a1, .int .i64 r.a2, .int .i64 r.val] 0
def k30 : K3 := ⟨0, 0, 0⟩
/-- An array of three numbers lies at g. -/
def KAt (x : World) (g : Nat) (k : K3) : Prop := x.heap[g]? = some (.cells (k3C k).toArray 37 (0, 0))
theorem k3_size : (Try.prog.info? 37).map (·.size) = some 3 := by kernel_rfl
theorem results_k3 {fn : Func} {p u : Tmp} (h : fn.results = #[.cell p 37, .tmp u]) (tmps : Array Value) (w : World) (g : Nat) (k : K3)
    (hp : tmps.getD p undef = .pointer (some ⟨g, 0, none⟩)) (hc : KAt w g k) : (results fn tmps).run Try.prog w = .ok (.tuple #[k3V k, tmps.getD u undef]) w := by
  have hp' : tmps[p]?.getD undef = .pointer (some ⟨g, 0, none⟩) := by simpa using hp
  have hl := run_loadVar_row (P := Try.prog) w g 37 37 (k3C k).toArray (0, 0) _ hc Try.underlying37 rfl k3_size
  simp [results, h, hp', asAddr, hl, Result.andThen]
  rfl
theorem KAt.step {x y : World} {g : Nat} {k : K3} (h : KAt x g k) (hb : Below x.heap.size x y) : KAt y g k := (hb.block g (Array.getElem?_eq_some_iff.1 h).1).trans h
theorem KAt.set {x : World} {g : Nat} {k : K3} (h : KAt x g k) (f : K3) : KAt (x.setRow g (k3C f).toArray) g f := setRow_heap x g _ _ _ _ h
theorem KAt.cells {x : World} {g : Nat} {k : K3} (h : KAt x g k) : x.cell? ⟨g, 0, none⟩ = some (.int .i64 k.a0) ∧ x.cell? ⟨g, 1, none⟩ = some (.int .i64 k.a1) ∧ x.cell? ⟨g, 2, none⟩ = some (.int .i64 k.a2) := by
  have c := fun j => cell_of_row x g j _ _ _ h
  exact ⟨c 0, c 1, c 2⟩
theorem wpList_storeK {P : Program} (hP : P = Try.prog) {ops : Array Oper} {rest : List Oper} {o : Oper} {a : Act} {w : World} {Q : Exit → Act → World → Prop} (hgd : o.guard = none) (x y : Operand) (ho : o.op = .store 37 x y)
    (g : Nat) (hx : a.eval x = .pointer (some ⟨g, 0, none⟩)) (k0 : K3) (hr : KAt w g k0) (k : K3) (hy : a.eval y = k3V k)
    (h : wpList P ops Q rest (a.put o.dst undef) (w.setRow g (k3C k).toArray)) : wpList P ops Q (o :: rest) a w := by
  subst hP
  exact wpList_store_row hgd 37 x y ho g (k3C k).toArray hx hy 37 _ hr k3_size rfl (by simp [k3C, Value.oneCell']) h
def padZ (m : Nat) (A : Nat → Int) (i : Nat) : Int := if i < m then A i else 0
/-- The first m values, as a row's arguments. -/
def padK (m : Nat) (A : Nat → Int) : K3 := ⟨padZ m A 0, padZ m A 1, padZ m A 2⟩
/-- What asking a function of arguments comes to: the row, the error. -/
def askT (g : Sg) (W : Wd) (f : Int) (m : Nat) (A : Nat → Int) : K3 × Int :=
  if mayW g W = false then (k30, 2) else if f < 0 then (k30, 2) else if (g.nf : Int) ≤ f then (k30, 2) else if (m : Int) ≠ (g.F f.toNat).len then (k30, 2)
  else (padK m A, if fitB g.ns W (g.F f.toNat) (a3 (padK m A).a0 (padK m A).a1 (padK m A).a2) then 0 else 33)
theorem mayW_check {g : Sg} {W : Wd} (h : mayW g W = true) : checkG g = true := by unfold mayW at h; simp only [Bool.and_eq_true] at h; exact h.1
theorem may_len {g : Sg} {W : Wd} (h : mayW g W = true) {i : Nat} (hi : i < g.nf) : 0 ≤ (g.F i).len ∧ (g.F i).len ≤ 3 := by
  have h := mayW_check h
  unfold checkG at h
  simp only [Bool.and_eq_true] at h
  have := (upTo_iff _ _).1 h.1.2 i hi
  unfold okFn funB at this
  simp only [Bool.and_eq_true, decide_eq_true_eq] at this
  exact this.2.1.1
theorem padZ_R {m : Nat} {A : Nat → Int} (hA : ∀ i, i < m → R64 (A i)) (i : Nat) : R64 (padZ m A i) := by
  unfold padZ
  by_cases h : i < m
  · rw [if_pos h]; exact hA i h
  · rw [if_neg h]; exact ⟨by decide, by decide⟩
/-- A function's value at a row of arguments. -/
def rowV (f : Fv) (k : K3) : Int := match placeR f.R f.nr k with | some x => (f.R x.toNat).val | none => f.els
/-- What a function tells of arguments: the value, the error. -/
def valT (g : Sg) (W : Wd) (f : Int) (m : Nat) (A : Nat → Int) : Int × Int := if (askT g W f m A).2 = 0 then (rowV (W.F f.toNat) (askT g W f m A).1, 0) else (0, (askT g W f m A).2)
theorem ask_ok {g : Sg} {W : Wd} {f : Int} {m : Nat} {A : Nat → Int} (h : (askT g W f m A).2 = 0) : mayW g W = true ∧ (0 ≤ f ∧ f < g.nf) ∧ (m : Int) = (g.F f.toNat).len ∧ (askT g W f m A).1 = padK m A ∧ fitB g.ns W (g.F f.toNat) (a3 (padK m A).a0 (padK m A).a1 (padK m A).a2) = true := by
  unfold askT at h ⊢
  by_cases h0 : mayW g W = false
  · rw [if_pos h0] at h; exact absurd h (by simp)
  rw [if_neg h0] at h ⊢
  by_cases h1 : f < 0
  · rw [if_pos h1] at h; exact absurd h (by simp)
  rw [if_neg h1] at h ⊢
  by_cases h2 : (g.nf : Int) ≤ f
  · rw [if_pos h2] at h; exact absurd h (by simp)
  rw [if_neg h2] at h ⊢
  by_cases h3 : (m : Int) ≠ (g.F f.toNat).len
  · rw [if_pos h3] at h; exact absurd h (by simp)
  rw [if_neg h3] at h ⊢
  refine ⟨by simpa using h0, ⟨by omega, by omega⟩, by simpa using h3, rfl, ?_⟩
  dsimp only at h
  by_cases h4 : fitB g.ns W (g.F f.toNat) (a3 (padK m A).a0 (padK m A).a1 (padK m A).a2) = true
  · exact h4
  · rw [if_neg h4] at h; exact absurd h (by simp)
theorem mayW_nf {g : Sg} {W : Wd} (h : mayW g W = true) : W.nf = g.nf := by unfold mayW at h; simp only [Bool.and_eq_true, decide_eq_true_eq] at h; exact h.2.2.1
theorem askK_R {g : Sg} {W : Wd} {f : Int} {m : Nat} {A : Nat → Int} (hA : ∀ i, i < m → R64 (A i)) : K3R (askT g W f m A).1 := by
  have h0 : K3R k30 := ⟨⟨by decide, by decide⟩, ⟨by decide, by decide⟩, ⟨by decide, by decide⟩⟩
  unfold askT
  repeat' split
  all_goals first | exact h0 | exact ⟨padZ_R hA 0, padZ_R hA 1, padZ_R hA 2⟩
end Go.Proofs.Ytecmoahadckomaa
