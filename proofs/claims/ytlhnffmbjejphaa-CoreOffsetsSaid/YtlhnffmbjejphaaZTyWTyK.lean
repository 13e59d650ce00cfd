/- Plain words: which terms are well sorted (no program's text is walked here). -/
import Derived.Test.YtlhnffmbjejphaaZFirstSigW
import Derived.Test.YtlhnffmbjejphaaZTermBTermL
namespace Go.Proofs.Ytlhnffmbjejphaa
open Go.RowKit
set_option maxRecDepth 100000
def tyK (op : Int) : Bool := decide (0 ≤ op ∧ op < 13)
def tyN (op : Int) : Int := if op = 0 ∨ op = 10 then 0 else if op = 1 ∨ op = 11 then 1 else if op = 7 then 3 else 2
def tyA (op : Int) : Int := if op = 0 ∨ op = 6 ∨ op = 7 ∨ op = 10 then -1 else if op = 8 ∨ op = 9 ∨ op = 11 ∨ op = 12 then 1 else 0
def tyR (op : Int) : Int := if op = 7 then -1 else if op = 10 ∨ op = 11 then 1 else 0
theorem tyop_cases {op : Int} (h : tyK op = true) : op = 0 ∨ op = 1 ∨ op = 2 ∨ op = 3 ∨ op = 4 ∨ op = 5 ∨ op = 6 ∨ op = 7 ∨ op = 8 ∨ op = 9 ∨ op = 10 ∨ op = 11 ∨ op = 12 := by
  unfold tyK at h
  simp at h
  omega
def alikeB (m : Nat) (f : Nat → Int) : Bool := (List.range m).all fun i => f i == f 0
theorem alike_yes {m : Nat} {f : Nat → Int} (h : ∀ i, i < m → f i = f 0) : alikeB m f = true := by unfold alikeB; rw [List.all_eq_true]; intro i hi; simp [h i (List.mem_range.1 hi)]
theorem alike_no {m i : Nat} {f : Nat → Int} (hi : i < m) (h : f i ≠ f 0) : alikeB m f = false := by
  unfold alikeB
  rw [List.all_eq_false]
  exact ⟨i, List.mem_range.2 hi, by simpa using h⟩
def negS (m : Nat) (f : Nat → Int) : Bool := (List.range m).any fun i => decide (f i < 0)
theorem neg_yes {m i : Nat} {f : Nat → Int} (hi : i < m) (h : f i < 0) : negS m f = true := by
  unfold negS
  rw [List.any_eq_true]
  exact ⟨i, List.mem_range.2 hi, decide_eq_true h⟩
theorem neg_no {m : Nat} {f : Nat → Int} (h : ∀ i, i < m → 0 ≤ f i) : negS m f = false := by
  unfold negS
  rw [List.any_eq_false]
  intro i hi
  have := h i (List.mem_range.1 hi)
  simp; omega
/-- The sort that a kind has of sorts, and the error: behind the first look. -/
def tailT (op : Int) (k : Nat) (g : Nat → Int) : Int × Int :=
  if alikeB k g = false then (0, 33)
  else if 0 < k ∧ tyA op ≠ -1 ∧ g 0 ≠ tyA op then (0, 33)
  else if tyR op = -1 then (g 0, 0) else (tyR op, 0)
def opT (op : Int) (m : Nat) (f : Nat → Int) : Int × Int :=
  if tyK op = false then (0, 2)
  else if (m : Int) ≠ tyN op then (0, 2)
  else if op = 7 ∧ f 0 ≠ 0 then (0, 33)
  else if negS m f = true then (0, 33)
  else if op = 7 then tailT op (m - 1) (fun i => f (1 + i)) else tailT op m f
def opV (p : Int × Int) : Value := .tuple #[.int .i64 p.1, .int .i64 p.2]
theorem tyN_le (op : Int) : 0 ≤ tyN op ∧ tyN op ≤ 3 := by unfold tyN; split <;> (try split) <;> (try split) <;> omega
theorem tyR_free {op : Int} (h : op ≠ 7) : tyR op ≠ -1 := by unfold tyR; rw [if_neg h]; split <;> omega
def CapOk (v : Value) : Prop := ∀ A n c, v = .slice A n c → n ≤ c ∧ c ≤ 9223372036854775807
theorem opT7 {m : Nat} {f : Nat → Int} : opT 7 m f = if m ≠ 3 then (0, 2) else if f 0 ≠ 0 then (0, 33) else if negS m f = true then (0, 33) else if f 2 = f 1 then (f 1, 0) else (0, 33) := by
  have k7 : tyK 7 = true := by decide
  have n7 : tyN 7 = 3 := by decide
  have a7 : tyA 7 = -1 := by decide
  have r7 : tyR 7 = -1 := by decide
  by_cases hm : m = 3
  · subst hm
    by_cases h0 : f 0 = 0
    · by_cases hn : negS 3 f = true
      · simp [opT, k7, n7, h0, hn]
      · have hal : alikeB 2 (fun i => f (1 + i)) = (f 2 == f 1) := by unfold alikeB; simp [List.range, List.range.loop]
        by_cases he : f 2 = f 1
        · simp [opT, k7, n7, h0, hn, tailT, a7, r7, hal, he]
        · simp [opT, k7, n7, h0, hn, tailT, hal, he]
    · simp [opT, k7, n7, h0]
  · have hm' : ¬ ((m : Int) = 3) := by omega
    simp [opT, k7, n7, hm, hm']
/-- The sorts are the function's arguments. -/
def argsB (f : Fn) (m : Nat) (S : Nat → Int) : Bool := (List.range m).all fun i => S i == f.arg i
theorem args_yes {f : Fn} {m : Nat} {S : Nat → Int} (h : ∀ i, i < m → S i = f.arg i) : argsB f m S = true := by unfold argsB; rw [List.all_eq_true]; intro i hi; simp [h i (List.mem_range.1 hi)]
theorem args_no {f : Fn} {m i : Nat} {S : Nat → Int} (hi : i < m) (h : S i ≠ f.arg i) : argsB f m S = false := by
  unfold argsB
  rw [List.all_eq_false]
  exact ⟨i, List.mem_range.2 hi, by simpa using h⟩
def appT (g : Sg) (f : Int) (m : Nat) (S : Nat → Int) : Int × Int :=
  if checkG g = false then (0, 2)
  else if f < 0 ∨ (g.nf : Int) ≤ f then (0, 2)
  else if (m : Int) ≠ (g.F f.toNat).len then (0, 2)
  else if argsB (g.F f.toNat) m S = true then ((g.F f.toNat).res, 0) else (0, 33)
theorem check_fun {g : Sg} (h : checkG g = true) {i : Nat} (hi : i < g.nf) : funB g.ns (g.F i) = true := by
  unfold checkG at h
  simp only [Bool.and_eq_true] at h
  have := (upTo_iff _ _).1 h.1.2 i hi
  unfold okFn at this
  simp only [Bool.and_eq_true] at this
  exact this.2
theorem check_len {g : Sg} (h : checkG g = true) {i : Nat} (hi : i < g.nf) : 0 ≤ (g.F i).len ∧ (g.F i).len ≤ 3 := by
  have := check_fun h hi
  unfold funB at this
  simp only [Bool.and_eq_true, decide_eq_true_eq] at this
  exact this.1.1
def sortsN (N : Nat → Nd) (e : Nd) (i : Nat) : Int := (N (e.arg i).toNat).sort
/-- The sort that a node has, its Args standing in a table; and whether it has one. -/
def nodeT (g : Sg) (N : Nat → Nd) (e : Nd) : Int × Int := if e.op = 13 then appT g e.fn e.len.toNat (sortsN N e) else opT e.op e.len.toNat (sortsN N e)
/-- The node's Args stand in a table of n nodes. -/
structure InT (n : Nat) (e : Nd) : Prop where
  R : NdR e
  len0 : 0 ≤ e.len
  len3 : e.len ≤ 3
  arg : ∀ i : Nat, (i : Int) < e.len → 0 ≤ e.arg i ∧ e.arg i < n
def sortV (p : Int × Int) : Value := .tuple #[.int .i64 p.1, .bool (p.2 == 0)]
theorem own3 (w : World) (base : Nat) (hb : base ≤ w.heap.size) : OwnL (w.alloc (.cells #[.int .i64 0, .int .i64 0, .int .i64 0] 3)) base (.slice (some ⟨w.heap.size, 0, none⟩) 0 3) [] :=
  World.ownsRow_made w _ 3 hb (by unfold maxLen; omega) rfl
theorem cellsK.under {K : List (Nat × Nat × Value)} {B : Nat} {x y : World} (h : cellsK K x) (hb : Below B x y) (hK : ∀ a ∈ K, a.1 < B) : cellsK K y := by
  induction K with
  | nil => trivial
  | cons a K ih =>
    obtain ⟨b, o, v⟩ := a
    obtain ⟨⟨h0, h1⟩, h2⟩ := h
    exact ⟨⟨(hb.cell (p := ⟨b, o, none⟩) (hK (b, o, v) (by simp))).trans h0, Nat.lt_of_lt_of_le h1 hb.size⟩, ih h2 fun a ha => hK a (by simp [ha])⟩
theorem Bx.under {K : List (Nat × Nat × Value)} {B : Nat} {w x y : World} (h : Bx w K x) (hb : Below B x y) (hK : ∀ a ∈ K, a.1 < B) (hw : w.heap.size ≤ B) : Bx w K y :=
  ⟨h.cells.under hb hK, h.bel.trans (hb.mono hw)⟩
theorem range_snoc {f : Nat → Int} {j : Nat} : (List.range (j + 1)).map f = (List.range j).map f ++ [f j] := by rw [List.range_succ, List.map_append]; rfl
theorem OwnL.capOk {w : World} {b : Nat} {v : Value} {xs : List Int} (h : OwnL w b v xs) : CapOk v := by
  intro A n c hv
  rcases h.2 with ⟨rfl, _⟩ | ⟨g, cap, cur, rfl, _, _, h1, h2, _⟩
  · injection hv with _ e1 e2; omega
  · injection hv with _ e1 e2
    unfold maxLen at h2
    omega
/-- The node e, behind the nodes N, has the sort that it says. -/
def okNd (g : Sg) (N : Nat → Nd) (e : Nd) : Bool := ((nodeT g N e).2 == 0) && ((nodeT g N e).1 == e.sort)
noncomputable def tabT (g : Sg) (n : Nat) (N : Nat → Nd) : Int := if checkG g = false then 2 else if checkT n N ≠ 0 then 2 else if upTo n (fun i => okNd g N (N i)) = true then 0 else 33
theorem InT.of {n : Nat} {e : Nd} (hR : NdR e) {at_ : Int} (h : StandsP e at_) (ha : at_ ≤ n) : InT n e := by
  refine ⟨hR, h.len0, h.len3, fun i hi => ?_⟩
  have h3 := h.len3
  match i with
  | 0 => have := h.arg0.1 hi; omega
  | 1 => have := h.arg1.1 hi; omega
  | 2 => have := h.arg2.1 hi; omega
  | i + 3 => omega
theorem check_cases (n : Nat) (N : Nat → Nd) : checkT n N = 0 ∨ checkT n N = 2 := by
  rcases Classical.em (CheckP n N) with h | h
  · exact .inl (check_yes h)
  · exact .inr (check_not h)
def toK (w : World) (sv fv mv tv : Value) : List (Nat × Nat × Value) := [(w.heap.size + 1, 0, tv), (w.heap.size, 0, sv), (w.heap.size, 1, fv), (w.heap.size, 2, mv)]
theorem toK_bx (w : World) (sv fv mv tv : Value) : Bx w (toK w sv fv mv tv) ((w.alloc (.cells #[sv, fv, mv] 29)).alloc (.cells #[tv] 36)) := by
  have h := ((Bx.nil w).row #[sv, fv, mv] 29).row #[tv] 36
  simp only [rowK, World.size_alloc, List.append_nil, List.cons_append, List.nil_append] at h
  exact h
def ndK (b : Nat) (e : Nd) : List (Nat × Nat × Value) := rowK b [.int .i8 e.op, .int .i8 e.len, .int .i64 e.a0, .int .i64 e.a1, .int .i64 e.a2, .int .i64 e.sort, .int .i64 e.fn, .int .i64 e.num] 0
theorem ndK_sort {b : Nat} {e : Nd} {x : World} {K : List (Nat × Nat × Value)} (h : cellsK (ndK b e ++ K) x) : x.cell? ⟨b, 5, none⟩ = some (.int .i64 e.sort) := h.2.2.2.2.2.1.1
end Go.Proofs.Ytlhnffmbjejphaa

namespace Go.Proofs.Ytlhnffmbjejphaa
open Go.RowKit
set_option maxRecDepth 100000
def soK (w : World) (sv fv mv tv : Value) (e : Nd) : List (Nat × Nat × Value) :=
  [(w.heap.size + 2, 0, .int .i8 e.op), (w.heap.size + 2, 1, .int .i8 e.len), (w.heap.size + 2, 2, .int .i64 e.a0), (w.heap.size + 2, 3, .int .i64 e.a1), (w.heap.size + 2, 4, .int .i64 e.a2), (w.heap.size + 2, 6, .int .i64 e.fn),
   (w.heap.size + 1, 0, tv), (w.heap.size, 0, sv), (w.heap.size, 1, fv), (w.heap.size, 2, mv)]
theorem soK_lt {w : World} {sv fv mv tv : Value} {e : Nd} : ∀ a ∈ soK w sv fv mv tv e, a.1 < w.heap.size + 3 := by
  intro a ha
  simp [soK] at ha
  rcases ha with rfl | rfl | rfl | rfl | rfl | rfl | rfl | rfl | rfl | rfl <;> simp
theorem soK_bx (w : World) (sv fv mv tv : Value) (e : Nd) : Bx w (soK w sv fv mv tv e) (((w.alloc (.cells #[sv, fv, mv] 29)).alloc (.cells #[tv] 36)).alloc (.cells (ndC e).toArray 49)) := by
  have h := (((Bx.nil w).row #[sv, fv, mv] 29).row #[tv] 36).row (ndC e).toArray 49
  simp only [rowK, ndC, World.size_alloc, List.append_nil, List.cons_append, List.nil_append] at h
  obtain ⟨⟨h0, h1, h2, h3, h4, h5, h6, h7, h8⟩, hb⟩ := h
  exact ⟨⟨h0, h1, h2, h3, h4, h6, h8⟩, hb⟩
theorem arg_cell {w x : World} {sv fv mv tv : Value} {e : Nd} (h : Bx w (soK w sv fv mv tv e) x) {j : Nat} (hj : j < 3) : x.cell? ⟨w.heap.size + 2, 2 + j, none⟩ = some (.int .i64 (e.arg j)) := by
  obtain ⟨h0, h1, ⟨h2, _⟩, ⟨h3, _⟩, ⟨h4, _⟩, _⟩ := h.cells
  match j, hj with
  | 0, _ => exact h2
  | 1, _ => exact h3
  | 2, _ => exact h4
end Go.Proofs.Ytlhnffmbjejphaa
