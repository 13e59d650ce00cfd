/- Plain words: which worlds may be, what a function tells (no program's text is walked here). -/
import Derived.Test.YtecmoahadckomaaGreatZSigWSigN
import Derived.Test.YtecmoahadckomaaGreatZSigMToFirst
import Derived.Test.YtecmoahadckomaaGreatZIntsToNumW
import Derived.Laws.Rows
import Derived.Deep.WholeRow
import Derived.BigFrame
namespace Go.Proofs.YtecmoahadckomaaGreat
open Go.RowKit
set_option maxRecDepth 100000
/-- Is v a value of the sort s, in the world W, under a signature of ns sorts? -/
def isB (ns : Nat) (W : Wd) (s v : Int) : Bool :=
  if W.nz ≠ ns then false else if s < 0 then false else if (W.nz : Int) + 2 ≤ s then false
  else if s = 0 then decide (0 ≤ v ∧ v ≤ 1) else if s = 1 then mayB v else decide (0 ≤ v ∧ v < W.Z (s - 2).toNat)
def fitB1 (ns : Nat) (W : Wd) (f : Fn) (a : Nat → Int) (i : Nat) : Bool := if (i : Int) < f.len then isB ns W (f.arg i) (a i) else decide (a i = 0)
/-- Are they values of the function's arguments? -/
def fitB (ns : Nat) (W : Wd) (f : Fn) (a : Nat → Int) : Bool := fitB1 ns W f a 0 && (fitB1 ns W f a 1 && fitB1 ns W f a 2)
def a3 (x y z : Int) (i : Nat) : Int := match i with | 0 => x | 1 => y | _ => z
theorem fit_no {ns : Nat} {W : Wd} {f : Fn} {a : Nat → Int} {i : Nat} (hi : i < 3) (h : fitB1 ns W f a i = false) : fitB ns W f a = false := by
  unfold fitB
  have : i = 0 ∨ i = 1 ∨ i = 2 := by omega
  rcases this with rfl | rfl | rfl <;> rw [h] <;> simp
theorem fit_yes {ns : Nat} {W : Wd} {f : Fn} {a : Nat → Int} (h : ∀ i, i < 3 → fitB1 ns W f a i = true) : fitB ns W f a = true := by
  unfold fitB; rw [h 0 (by omega), h 1 (by omega), h 2 (by omega)]; rfl
structure K3 where
  a0 : Int
  a1 : Int
  a2 : Int
deriving DecidableEq
structure K3R (k : K3) : Prop where
  a0 : R64 k.a0
  a1 : R64 k.a1
  a2 : R64 k.a2
def Rw.key (r : Rw) : K3 := ⟨r.a0, r.a1, r.a2⟩
theorem RwR.key {r : Rw} (h : RwR r) : K3R r.key := ⟨h.a0, h.a1, h.a2⟩
def k3C (k : K3) : List Value := [.int .i64 k.a0, .int .i64 k.a1, .int .i64 k.a2]
def k3V (k : K3) : Value := .agg #[.int .i64 k.a0, .int .i64 k.a1, .int .i64 k.a2]
theorem k3V_inj {e f : K3} (h : k3V e = k3V f) : e = f := by
  obtain ⟨x0, x1, x2⟩ := e
  obtain ⟨y0, y1, y2⟩ := f
  simp [k3V] at h
  simp [h]
def placeR (R : Nat → Rw) : Nat → K3 → Option Int
  | 0, _ => none
  | k + 1, e => if e = (R k).key then some (k : Int) else placeR R k e
def cntR (R : Nat → Rw) : Nat → Nat
  | 0 => 0
  | k + 1 => if (placeR R k (R k).key).isSome then cntR R k else cntR R k + 1
theorem cntR_le (R : Nat → Rw) (k : Nat) : cntR R k ≤ k := by
  induction k with
  | zero => exact Nat.le_refl _
  | succ k ih => unfold cntR; split <;> omega
theorem placeR_none (R : Nat → Rw) (k : Nat) (e : K3) : placeR R k e = none ↔ ∀ i, i < k → (R i).key ≠ e := by
  induction k with
  | zero => simp [placeR]
  | succ k ih =>
    unfold placeR
    by_cases h : e = (R k).key
    · rw [if_pos h]
      constructor
      · intro h'; cases h'
      · intro h'; exact absurd h.symm (h' k (by omega))
    · rw [if_neg h, ih]
      constructor
      · intro h' i hi
        by_cases ei : i = k
        · subst ei; exact fun h'' => h h''.symm
        · exact h' i (by omega)
      · exact fun h' i hi => h' i (by omega)
theorem placeR_some (R : Nat → Rw) (k : Nat) (e : K3) (x : Int) (h : placeR R k e = some x) : ∃ i, i < k ∧ (R i).key = e ∧ x = i := by
  induction k with
  | zero => cases h
  | succ k ih =>
    unfold placeR at h
    split at h
    · next h' => injection h with h; exact ⟨k, by omega, h'.symm, h.symm⟩
    · obtain ⟨i, h1, h2, h3⟩ := ih h
      exact ⟨i, by omega, h2, h3⟩
def OnceR (R : Nat → Rw) (n : Nat) : Prop := ∀ i j, i < j → j < n → (R i).key ≠ (R j).key
theorem cntR_iff (R : Nat → Rw) (k : Nat) : cntR R k = k ↔ OnceR R k := by
  induction k with
  | zero => exact ⟨fun _ i j h1 h2 => by omega, fun _ => rfl⟩
  | succ k ih =>
    have hle := cntR_le R k
    unfold cntR
    cases hp : placeR R k (R k).key with
    | some x =>
      simp only [Option.isSome_some, if_true]
      constructor
      · intro h; omega
      · intro h
        obtain ⟨i, h1, h2, _⟩ := placeR_some R k _ x hp
        exact absurd h2 (h i k h1 (by omega))
    | none =>
      simp only [Option.isSome_none, Bool.false_eq_true, if_false]
      have hno := (placeR_none R k _).1 hp
      constructor
      · intro h i j h1 h2
        by_cases e : j = k
        · subst e; exact hno i h1
        · exact ih.1 (by omega) i j h1 (by omega)
      · intro h
        rw [ih.2 fun i j h1 h2 => h i j h1 (by omega)]
def sizeB (z : Int) : Bool := decide (1 ≤ z ∧ z ≤ 1000)
def rowOkB (ns : Nat) (W : Wd) (fn : Fn) (f : Fv) (k : Nat) : Bool := fitB ns W fn (a3 (f.R k).a0 (f.R k).a1 (f.R k).a2) && isB ns W fn.res (f.R k).val
/-- May a function's values be? -/
def fvB (ns : Nat) (W : Wd) (fn : Fn) (f : Fv) : Bool := decide (cntR f.R f.nr = f.nr) && (decide (f.nr ≤ 400) && (isB ns W fn.res f.els && upTo f.nr (rowOkB ns W fn f)))
/-- May a world be? -/
def mayW (g : Sg) (W : Wd) : Bool := checkG g && (decide (W.nz = g.ns) && (decide (W.nf = g.nf) && (upTo W.nz (fun i => sizeB (W.Z i)) && upTo W.nf (fun i => fvB g.ns W (g.F i) (W.F i)))))
structure FewW (W : Wd) : Prop where
  nz : W.nz ≤ 1000000
  nf : W.nf ≤ 1000000
  nr : ∀ i, i < W.nf → (W.F i).nr ≤ 1000000
theorem fv_once {ns : Nat} {W : Wd} {fn : Fn} {f : Fv} (h : cntR f.R f.nr ≠ f.nr) : fvB ns W fn f = false := by unfold fvB; rw [decide_eq_false h]; rfl
theorem fv_many {ns : Nat} {W : Wd} {fn : Fn} {f : Fv} (h : ¬ f.nr ≤ 400) : fvB ns W fn f = false := by unfold fvB; rw [decide_eq_false h]; simp
theorem fv_else {ns : Nat} {W : Wd} {fn : Fn} {f : Fv} (h : isB ns W fn.res f.els = false) : fvB ns W fn f = false := by unfold fvB; rw [h]; simp
theorem fv_row {ns : Nat} {W : Wd} {fn : Fn} {f : Fv} {k : Nat} (hk : k < f.nr) (h : rowOkB ns W fn f k = false) : fvB ns W fn f = false := by unfold fvB; rw [upTo_no hk h]; simp
theorem fv_yes {ns : Nat} {W : Wd} {fn : Fn} {f : Fv} (h0 : cntR f.R f.nr = f.nr) (h1 : f.nr ≤ 400) (h2 : isB ns W fn.res f.els = true) (h3 : ∀ k, k < f.nr → rowOkB ns W fn f k = true) : fvB ns W fn f = true := by
  unfold fvB; rw [decide_eq_true h0, decide_eq_true h1, h2, upTo_yes h3]; rfl
theorem RowAt.cells_at {k : Nat} {C : World → Nat → Nat → Nat → Prop} {w : World} {v : Value} {n : Nat} (h : RowAt k C w v n) {i : Nat} (hi : i < n) : ∃ b o c, v = .slice (some ⟨b, o, none⟩) n c ∧ b < w.heap.size ∧ C w b (o + i * k) i := by
  obtain ⟨A, c, rfl, _, hc⟩ := h
  obtain ⟨b, o, rfl, hb, hc⟩ := hc (by omega)
  exact ⟨b, o, c, rfl, hb, hc i hi⟩
def rwK (b : Nat) (r : Rw) : List (Nat × Nat × Value) := rowK b [.int .i64 r.a0, .int .i64 r.a1, .int .i64 r.a2, .int .i64 r.val] 0
def k30 : K3 := ⟨0, 0, 0⟩
/-- An array of three numbers lies at g. -/
def KAt (x : World) (g : Nat) (k : K3) : Prop := x.heap[g]? = some (.cells (k3C k).toArray 45 (0, 0))
theorem k3_size : (Tryz.prog.info? 45).map (·.size) = some 3 := by kernel_rfl
theorem results_k3 {fn : Func} {p u : Tmp} (h : fn.results = #[.cell p 45, .tmp u]) (tmps : Array Value) (w : World) (g : Nat) (k : K3)
    (hp : tmps.getD p undef = .pointer (some ⟨g, 0, none⟩)) (hc : KAt w g k) : (results fn tmps).run Tryz.prog w = .ok (.tuple #[k3V k, tmps.getD u undef]) w := by
  have hp' : tmps[p]?.getD undef = .pointer (some ⟨g, 0, none⟩) := by simpa using hp
  have hl := run_loadVar_row (P := Tryz.prog) w g 45 45 (k3C k).toArray (0, 0) _ hc Tryz.underlying45 rfl k3_size
  simp [results, h, hp', asAddr, hl, Result.andThen]
  rfl
theorem KAt.step {x y : World} {g : Nat} {k : K3} (h : KAt x g k) (hb : Below x.heap.size x y) : KAt y g k := (hb.block g (Array.getElem?_eq_some_iff.1 h).1).trans h
theorem KAt.set {x : World} {g : Nat} {k : K3} (h : KAt x g k) (f : K3) : KAt (x.setRow g (k3C f).toArray) g f := setRow_heap x g _ _ _ _ h
theorem KAt.cells {x : World} {g : Nat} {k : K3} (h : KAt x g k) : x.cell? ⟨g, 0, none⟩ = some (.int .i64 k.a0) ∧ x.cell? ⟨g, 1, none⟩ = some (.int .i64 k.a1) ∧ x.cell? ⟨g, 2, none⟩ = some (.int .i64 k.a2) := by
  have c := fun j => cell_of_row x g j _ _ _ h
  exact ⟨c 0, c 1, c 2⟩
theorem wpList_storeK {P : Program} (hP : P = Tryz.prog) {ops : Array Oper} {rest : List Oper} {o : Oper} {a : Act} {w : World} {Q : Exit → Act → World → Prop} (hgd : o.guard = none) (x y : Operand) (ho : o.op = .store 45 x y)
    (g : Nat) (hx : a.eval x = .pointer (some ⟨g, 0, none⟩)) (k0 : K3) (hr : KAt w g k0) (k : K3) (hy : a.eval y = k3V k)
    (h : wpList P ops Q rest (a.put o.dst undef) (w.setRow g (k3C k).toArray)) : wpList P ops Q (o :: rest) a w := by
  subst hP
  exact wpList_store_row hgd 45 x y ho g (k3C k).toArray hx hy 45 _ hr k3_size rfl (by simp [k3C, Value.oneCell']) h
def padZ (m : Nat) (A : Nat → Int) (i : Nat) : Int := if i < m then A i else 0
/-- The first m values, as a row's arguments. -/
def padK (m : Nat) (A : Nat → Int) : K3 := ⟨padZ m A 0, padZ m A 1, padZ m A 2⟩
/-- What asking a function of arguments comes to: the row, the error. -/
def askT (g : Sg) (W : Wd) (f : Int) (m : Nat) (A : Nat → Int) : K3 × Int :=
  if mayW g W = false then (k30, 2) else if f < 0 then (k30, 2) else if (g.nf : Int) ≤ f then (k30, 2) else if (m : Int) ≠ (g.F f.toNat).len then (k30, 2)
  else (padK m A, if fitB g.ns W (g.F f.toNat) (a3 (padK m A).a0 (padK m A).a1 (padK m A).a2) then 0 else 33)
theorem mayW_check {g : Sg} {W : Wd} (h : mayW g W = true) : checkG g = true := by unfold mayW at h; simp only [Bool.and_eq_true] at h; exact h.1
theorem may_len {g : Sg} {W : Wd} (h : mayW g W = true) {i : Nat} (hi : i < g.nf) : 0 ≤ (g.F i).len ∧ (g.F i).len ≤ 3 := by
  have h := mayW_check h
  unfold checkG at h
  simp only [Bool.and_eq_true] at h
  have := (upTo_iff _ _).1 h.1.2 i hi
  unfold okFn funB at this
  simp only [Bool.and_eq_true, decide_eq_true_eq] at this
  exact this.2.1.1
theorem padZ_R {m : Nat} {A : Nat → Int} (hA : ∀ i, i < m → R64 (A i)) (i : Nat) : R64 (padZ m A i) := by
  unfold padZ
  by_cases h : i < m
  · rw [if_pos h]; exact hA i h
  · rw [if_neg h]; exact ⟨by decide, by decide⟩
/-- A function's value at a row of arguments. -/
def rowV (f : Fv) (k : K3) : Int := match placeR f.R f.nr k with | some x => (f.R x.toNat).val | none => f.els
/-- What a function tells of arguments: the value, the error. -/
def valT (g : Sg) (W : Wd) (f : Int) (m : Nat) (A : Nat → Int) : Int × Int := if (askT g W f m A).2 = 0 then (rowV (W.F f.toNat) (askT g W f m A).1, 0) else (0, (askT g W f m A).2)
theorem ask_ok {g : Sg} {W : Wd} {f : Int} {m : Nat} {A : Nat → Int} (h : (askT g W f m A).2 = 0) : mayW g W = true ∧ (0 ≤ f ∧ f < g.nf) ∧ (m : Int) = (g.F f.toNat).len ∧ (askT g W f m A).1 = padK m A ∧ fitB g.ns W (g.F f.toNat) (a3 (padK m A).a0 (padK m A).a1 (padK m A).a2) = true := by
  unfold askT at h ⊢
  by_cases h0 : mayW g W = false
  · rw [if_pos h0] at h; exact absurd h (by simp)
  rw [if_neg h0] at h ⊢
  by_cases h1 : f < 0
  · rw [if_pos h1] at h; exact absurd h (by simp)
  rw [if_neg h1] at h ⊢
  by_cases h2 : (g.nf : Int) ≤ f
  · rw [if_pos h2] at h; exact absurd h (by simp)
  rw [if_neg h2] at h ⊢
  by_cases h3 : (m : Int) ≠ (g.F f.toNat).len
  · rw [if_pos h3] at h; exact absurd h (by simp)
  rw [if_neg h3] at h ⊢
  refine ⟨by simpa using h0, ⟨by omega, by omega⟩, by simpa using h3, rfl, ?_⟩
  dsimp only at h
  by_cases h4 : fitB g.ns W (g.F f.toNat) (a3 (padK m A).a0 (padK m A).a1 (padK m A).a2) = true
  · exact h4
  · rw [if_neg h4] at h; exact absurd h (by simp)
theorem mayW_nf {g : Sg} {W : Wd} (h : mayW g W = true) : W.nf = g.nf := by unfold mayW at h; simp only [Bool.and_eq_true, decide_eq_true_eq] at h; exact h.2.2.1
theorem askK_R {g : Sg} {W : Wd} {f : Int} {m : Nat} {A : Nat → Int} (hA : ∀ i, i < m → R64 (A i)) : K3R (askT g W f m A).1 := by
  have h0 : K3R k30 := ⟨⟨by decide, by decide⟩, ⟨by decide, by decide⟩, ⟨by decide, by decide⟩⟩
  unfold askT
  repeat' split
  all_goals first | exact h0 | exact ⟨padZ_R hA 0, padZ_R hA 1, padZ_R hA 2⟩
end Go.Proofs.YtecmoahadckomaaGreat

namespace Go.Proofs.YtecmoahadckomaaGreat
open Go.RowKit
set_option maxRecDepth 100000
def isK (w : World) (sv fv mv zv wv : Value) : List (Nat × Nat × Value) := [(w.heap.size + 1, 0, zv), (w.heap.size + 1, 1, wv), (w.heap.size, 0, sv), (w.heap.size, 1, fv), (w.heap.size, 2, mv)]
theorem isK_bx (w : World) (sv fv mv zv wv : Value) : Bx w (isK w sv fv mv zv wv) ((w.alloc (.cells #[sv, fv, mv] 26)).alloc (.cells #[zv, wv] 30)) := by
  have h := ((Bx.nil w).row #[sv, fv, mv] 26).row #[zv, wv] 30
  simp only [rowK, World.size_alloc, List.append_nil, List.cons_append, List.nil_append] at h
  exact h
end Go.Proofs.YtecmoahadckomaaGreat

namespace Go.Proofs.YtecmoahadckomaaGreat
open Go.RowKit
set_option maxRecDepth 100000

set_option maxHeartbeats 4000000 in
theorem RIs_any (A FA MA ZA WA : Option Addr) (ns nf nm nz nw c fc mc zc wc : Nat) (W : Wd) (s v : Int) (w : World) (hz : W.nz = nz) (hZ : IntsAt w (.slice ZA nz zc) nz W.Z) (hn : nz ≤ 1000000) (hs : R64 s) (hv : R64 v) :
    Calls Tryz.prog 30 #[.agg #[.slice A ns c, .slice FA nf fc, .slice MA nm mc], .agg #[.slice ZA nz zc, .slice WA nw wc], .int .i64 s, .int .i64 v] w fun e w' => e = .returned (.bool (isB ns W s v)) ∧ Below w.heap.size w w' := by
  subst hz
  have hx := Lib.hid (isK_bx w (.slice A ns c) (.slice FA nf fc) (.slice MA nm mc) (.slice ZA W.nz zc) (.slice WA nw wc))
  have hZ' := Lib.hid (hZ.below hx.out.bel)
  have hR : Hid (isB ns W s v = if W.nz ≠ ns then false else if s < 0 then false else if (W.nz : Int) + 2 ≤ s then false else if s = 0 then decide (0 ≤ v ∧ v ≤ 1) else if s = 1 then mayB v else decide (0 ≤ v ∧ v < W.Z (s - 2).toNat)) := rfl
  have hv' := Lib.hid hv
  clear hv hZ
  go_enter Tryz.func30, Tryz.ntmps30
  by_cases h1 : W.nz = ns
  case neg =>
    have d1 : ((W.nz : Int) != (ns : Int)) = true := by simpa using fun h => h1 (by omega)
    have hF : Hid (isB ns W s v = false) := by unfold Hid; rw [hR.out, if_pos h1]
    clear h1 hR
    go_wp2_with fail
    go_ret
    exact ⟨by rw [hF.out]; rfl, hx.out.bel⟩
  subst h1
  have d1 : ((W.nz : Int) != (W.nz : Int)) = false := by simp
  have hR1 : Hid (isB W.nz W s v = if s < 0 then false else if (W.nz : Int) + 2 ≤ s then false else if s = 0 then decide (0 ≤ v ∧ v ≤ 1) else if s = 1 then mayB v else decide (0 ≤ v ∧ v < W.Z (s - 2).toNat)) := by unfold Hid; rw [hR.out, if_neg (fun h => h rfl)]
  clear hR
  by_cases h2 : s < 0
  · have d2 : decide (s < 0) = true := decide_eq_true h2
    have hF : Hid (isB W.nz W s v = false) := by unfold Hid; rw [hR1.out, if_pos h2]
    clear h2
    go_wp2_with fail
    go_ret
    exact ⟨by rw [hF.out]; rfl, hx.out.bel⟩
  have d2 : decide (s < 0) = false := decide_eq_false h2
  by_cases h3 : (W.nz : Int) + 2 ≤ s
  · have d3 : decide (2 + (W.nz : Int) ≤ s) = true := decide_eq_true (by omega)
    have hF : Hid (isB W.nz W s v = false) := by unfold Hid; rw [hR1.out, if_neg h2, if_pos h3]
    clear h2 h3
    go_wp2_with fail
    go_ret
    exact ⟨by rw [hF.out]; rfl, hx.out.bel⟩
  have d3 : decide (2 + (W.nz : Int) ≤ s) = false := decide_eq_false (by omega)
  have hR2 : Hid (isB W.nz W s v = if s = 0 then decide (0 ≤ v ∧ v ≤ 1) else if s = 1 then mayB v else decide (0 ≤ v ∧ v < W.Z (s - 2).toNat)) := by unfold Hid; rw [hR1.out, if_neg h2, if_neg h3]
  clear hR1
  by_cases e0 : s = 0
  · subst e0
    have hF : Hid (isB W.nz W 0 v = (v == 0 || v == 1)) := by
      unfold Hid
      rw [hR2.out, if_pos rfl, Bool.eq_iff_iff]
      simp
      omega
    clear hR2 h2 h3
    by_cases v0 : v = 0
    · subst v0
      go_wp2_with fail
      go_ret
      exact ⟨by rw [hF.out]; rfl, hx.out.bel⟩
    · have d4 : (v == 0) = false := by simpa using v0
      rw [d4, Bool.false_or] at hF
      clear v0
      by_cases v1 : v = 1
      · subst v1
        go_wp2_with fail
        go_ret
        exact ⟨by rw [hF.out]; rfl, hx.out.bel⟩
      · have d5 : (v == 1) = false := by simpa using v1
        rw [d5] at hF
        clear v1
        go_wp2_with fail
        go_ret
        exact ⟨by rw [hF.out]; simp, hx.out.bel⟩
  by_cases e1 : s = 1
  · subst e1
    have hF : Hid (isB W.nz W 1 v = mayB v) := by unfold Hid; rw [hR2.out, if_neg (by decide), if_pos rfl]
    have hm := Lib.hid fun (x : World) => RMay_any v x hv'.out.1 hv'.out.2
    clear hR2 h2 h3 e0
    go_wp2_with fail
    refine (hm.out _).mono ?_
    rintro e w1 ⟨rfl, rfl⟩
    go_wp2_with fail
    go_ret
    exact ⟨by rw [hF.out]; rfl, hx.out.bel⟩
  obtain ⟨j, rfl⟩ : ∃ j : Nat, s = (j : Int) + 2 := ⟨(s - 2).toNat, by omega⟩
  have hj : j < W.nz := by omega
  have hF : Hid (isB W.nz W ((j : Int) + 2) v = decide (0 ≤ v ∧ v < W.Z j)) := by
    unfold Hid; rw [hR2.out, if_neg e0, if_neg e1, show ((j : Int) + 2 - 2).toNat = j by omega]
  obtain ⟨b, o, rfl, hb, hc⟩ : ∃ b o, ZA = some ⟨b, o, none⟩ ∧ b < _ ∧ ∀ i, i < W.nz → _ := by
    obtain ⟨A', c', he, _, _, hc⟩ := hZ'.out
    injection he with he1 _ _
    subst he1
    exact hc (by omega)
  have r := hc j hj
  have d4 : ((j : Int) + 2 == 0) = false := by simp; omega
  have d5 : ((j : Int) + 2 == 1) = false := by simp; omega
  clear hR2 e0 e1 h2 h3 hc hZ'
  by_cases v0 : 0 ≤ v
  · have d6 : decide (0 ≤ v) = true := decide_eq_true v0
    have hF' : Hid (isB W.nz W ((j : Int) + 2) v = decide (v < W.Z j)) := by unfold Hid; rw [hF.out, Bool.eq_iff_iff]; simp [v0]
    clear hF v0
    go_wp2_with fail
    go_ret
    exact ⟨by rw [hF'.out]; rfl, hx.out.bel⟩
  · have d6 : decide (0 ≤ v) = false := decide_eq_false v0
    have hF' : Hid (isB W.nz W ((j : Int) + 2) v = false) := by unfold Hid; rw [hF.out]; simp [v0]
    clear hF v0
    go_wp2_with fail
    go_ret
    exact ⟨by rw [hF'.out]; rfl, hx.out.bel⟩
end Go.Proofs.YtecmoahadckomaaGreat

namespace Go.Proofs.YtecmoahadckomaaGreat
open Go.RowKit
set_option maxRecDepth 100000

def sumRw (W : Wd) : Nat → Int
  | 0 => 0
  | k + 1 => sumRw W k + min ((W.F k).nr : Int) 9000
def greatWB (W : Wd) : Bool := if 20 < W.nz then true else if 40 < W.nf then true else decide (300 < sumRw W W.nf)
theorem sumR_range (W : Wd) (k : Nat) : 0 ≤ sumRw W k ∧ sumRw W k ≤ 9000 * k := by
  induction k with
  | zero => exact ⟨Int.le_refl _, Int.le_refl _⟩
  | succ k ih => unfold sumRw; omega
theorem sumR_mono (W : Wd) {i k : Nat} (h : i < k) : min ((W.F i).nr : Int) 9000 ≤ sumRw W k := by
  induction k with
  | zero => omega
  | succ k ih =>
    unfold sumRw
    have := (sumR_range W k).1
    by_cases e : i = k
    · subst e; omega
    · have := ih (by omega); omega
structure SmallW (W : Wd) : Prop where
  nz : W.nz ≤ 20
  nf : W.nf ≤ 40
  nr : ∀ i, i < W.nf → (W.F i).nr ≤ 300
theorem great_small {W : Wd} (h : greatWB W = false) : SmallW W := by
  unfold greatWB at h
  by_cases h1 : 20 < W.nz
  · rw [if_pos h1] at h; cases h
  rw [if_neg h1] at h
  by_cases h2 : 40 < W.nf
  · rw [if_pos h2] at h; cases h
  rw [if_neg h2] at h
  have h3 := of_decide_eq_false h
  refine ⟨by omega, by omega, fun i hi => ?_⟩
  have := sumR_mono W hi
  omega
theorem SmallW.few {W : Wd} (h : SmallW W) : FewW W := ⟨by have := h.nz; omega, by have := h.nf; omega, fun i hi => by have := h.nr i hi; omega⟩
set_option maxHeartbeats 1000000 in
theorem greatW_any (zv wv : Value) (W : Wd) (w : World) (hW : WdAt w zv wv W) :
    Calls Tryz.prog 5 #[.agg #[zv, wv]] w fun e w' => e = .returned (.bool (greatWB W)) ∧ Below w.heap.size w w' := by
  have hW' := Lib.hid hW
  obtain ⟨ZA, zc, rfl, hzn, -, -⟩ := hW.1
  obtain ⟨WA, wq, rfl, ⟨hwn, hwc⟩, -⟩ := hW.2
  have hx := Lib.hid ((Bx.nil w).row #[.slice ZA W.nz zc, .slice WA W.nf wq] 30)
  have hR : Hid (greatWB W = if 20 < W.nz then true else if 40 < W.nf then true else decide (300 < sumRw W W.nf)) := rfl
  have hsm := Lib.hid fun k => sumR_range W k
  have hss := Lib.hid fun k => show sumRw W (k + 1) = sumRw W k + min ((W.F k).nr : Int) 9000 from rfl
  clear hW
  obtain ⟨⟨k0, -⟩, ⟨k1, -⟩, -⟩ := hx.out.cells
  go_enter Tryz.func5, Tryz.ntmps5
  by_cases h1 : 20 < W.nz
  · have d1 : decide ((20 : Int) < (W.nz : Int)) = true := decide_eq_true (by omega)
    have hF : Hid (greatWB W = true) := by unfold Hid; rw [hR.out, if_pos h1]
    clear h1
    go_wp2_with fail
    go_ret
    exact ⟨by rw [hF.out]; rfl, hx.out.bel⟩
  have d1 : decide ((20 : Int) < (W.nz : Int)) = false := decide_eq_false (by omega)
  by_cases h2 : 40 < W.nf
  · have d2 : decide ((40 : Int) < (W.nf : Int)) = true := decide_eq_true (by omega)
    have hF : Hid (greatWB W = true) := by unfold Hid; rw [hR.out, if_neg h1, if_pos h2]
    clear h1 h2
    go_wp2_with fail
    go_ret
    exact ⟨by rw [hF.out]; rfl, hx.out.bel⟩
  have d2 : decide ((40 : Int) < (W.nf : Int)) = false := decide_eq_false (by omega)
  have hF : Hid (greatWB W = decide (300 < sumRw W W.nf)) := by unfold Hid; rw [hR.out, if_neg h1, if_neg h2]
  have hnf : W.nf ≤ 40 := by omega
  clear h1 h2 hR
  go_wp2_with fail
  clear d1 d2
  go_loopw [3, 4] (fun s i wr => ∃ j : Nat, j ≤ W.nf ∧ i = .int .i64 j ∧ s = .int .i64 (sumRw W j) ∧ Hid (Bx w (rowK w.heap.size [.slice ZA W.nz zc, .slice WA W.nf wq] 0 ++ []) wr)) (fun _ i _ => W.nf - (intOf i).toNat)
  case atStart => exact ⟨0, Nat.zero_le _, rfl, rfl, hx.out⟩
  case round =>
    clear hx k0 k1
    obtain ⟨j, hj, rfl, rfl, hx⟩ := hrel
    obtain ⟨⟨k0, -⟩, ⟨k1, -⟩, -⟩ := hx.out.cells
    by_cases hlt : j < W.nf
    · have i1 : decide ((j : Int) < (W.nf : Int)) = true := decide_eq_true (by omega)
      have hji : (j : Int) < (W.nf : Int) := by omega
      have hj0 : (0 : Int) ≤ (j : Int) := by omega
      obtain ⟨wb, wo, wcc, ewv, hwb, v0, v1, ⟨y0, y1⟩, hfvi⟩ := RowAt.cells_at hW'.out.2 hlt
      injection ewv with ewa _ ewc
      subst ewa; subst ewc
      obtain ⟨rA, rc, rfl, ⟨hrn, hrc⟩, -⟩ := hfvi.1
      have y := (hx.out.bel.cell (p := ⟨wb, wo + j * 2, none⟩) hwb).trans y0
      obtain ⟨s0, s1⟩ := hsm.out j
      have hsj := Lib.hid (hss.out j)
      clear y0 y1 hfvi
      generalize hq : sumRw W (j + 1) = s' at *
      have hq' := Lib.hid hq
      clear hq
      generalize sumRw W j = s at *
      by_cases hmin : ((W.F j).nr : Int) ≤ 9000
      · have e1 : min ((W.F j).nr : Int) 9000 = ((W.F j).nr : Int) := Int.min_eq_left hmin
        have hwr : IntKind.i64.wrap (s + ((W.F j).nr : Int)) = s' := by rw [IntKind.wrap_i64, hsj.out, e1]; omega
        go_wp2_with fail
        go_roundw
        case rel => exact ⟨j + 1, by omega, by go_num, by rw [hq'.out], hx.out⟩
        case measure => simp [intOf]; omega
      · have e1 : min ((W.F j).nr : Int) 9000 = 9000 := Int.min_eq_right (by omega)
        have hwr : IntKind.i64.wrap (s + 9000) = s' := by rw [IntKind.wrap_i64, hsj.out, e1]; omega
        go_wp2_with fail
        go_roundw
        case rel => exact ⟨j + 1, by omega, by go_num, by rw [hq'.out], hx.out⟩
        case measure => simp [intOf]; omega
    · have i1 : decide ((j : Int) < (W.nf : Int)) = false := decide_eq_false (by omega)
      obtain rfl : j = W.nf := by omega
      go_wp2_with fail
      go_ret
      exact ⟨by rw [hF.out]; rfl, hx.out.bel⟩
end Go.Proofs.YtecmoahadckomaaGreat
