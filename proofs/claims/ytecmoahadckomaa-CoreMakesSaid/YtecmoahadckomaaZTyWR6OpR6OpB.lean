/- Plain words: which terms are well sorted (no program's text is walked here). -/
import Derived.Test.YtecmoahadckomaaZFirstSigW
import Derived.Test.YtecmoahadckomaaZTermBTermLGathL
import Derived.BigFrame
import Derived.BigQuiet
import Derived.Deep.QuietTactic
import Derived.Laws.ResultCell
namespace Go.Proofs.Ytecmoahadckomaa
open Go.RowKit
set_option maxRecDepth 100000
def tyK (op : Int) : Bool := decide (0 ≤ op ∧ op < 13)
def tyN (op : Int) : Int := if op = 0 ∨ op = 10 then 0 else if op = 1 ∨ op = 11 then 1 else if op = 7 then 3 else 2
def tyA (op : Int) : Int := if op = 0 ∨ op = 6 ∨ op = 7 ∨ op = 10 then -1 else if op = 8 ∨ op = 9 ∨ op = 11 ∨ op = 12 then 1 else 0
def tyR (op : Int) : Int := if op = 7 then -1 else if op = 10 ∨ op = 11 then 1 else 0
theorem tyop_cases {op : Int} (h : tyK op = true) : op = 0 ∨ op = 1 ∨ op = 2 ∨ op = 3 ∨ op = 4 ∨ op = 5 ∨ op = 6 ∨ op = 7 ∨ op = 8 ∨ op = 9 ∨ op = 10 ∨ op = 11 ∨ op = 12 := by
  unfold tyK at h
  simp at h
  omega
def alikeB (m : Nat) (f : Nat → Int) : Bool := (List.range m).all fun i => f i == f 0
theorem alike_yes {m : Nat} {f : Nat → Int} (h : ∀ i, i < m → f i = f 0) : alikeB m f = true := by unfold alikeB; rw [List.all_eq_true]; intro i hi; simp [h i (List.mem_range.1 hi)]
theorem alike_no {m i : Nat} {f : Nat → Int} (hi : i < m) (h : f i ≠ f 0) : alikeB m f = false := by
  unfold alikeB
  rw [List.all_eq_false]
  exact ⟨i, List.mem_range.2 hi, by simpa using h⟩
def negS (m : Nat) (f : Nat → Int) : Bool := (List.range m).any fun i => decide (f i < 0)
theorem neg_yes {m i : Nat} {f : Nat → Int} (hi : i < m) (h : f i < 0) : negS m f = true := by
  unfold negS
  rw [List.any_eq_true]
  exact ⟨i, List.mem_range.2 hi, decide_eq_true h⟩
theorem neg_no {m : Nat} {f : Nat → Int} (h : ∀ i, i < m → 0 ≤ f i) : negS m f = false := by
  unfold negS
  rw [List.any_eq_false]
  intro i hi
  have := h i (List.mem_range.1 hi)
  simp; omega
/-- The sort that a kind has of sorts, and the error: behind the first look. -/
def tailT (op : Int) (k : Nat) (g : Nat → Int) : Int × Int :=
  if alikeB k g = false then (0, 33)
  else if 0 < k ∧ tyA op ≠ -1 ∧ g 0 ≠ tyA op then (0, 33)
  else if tyR op = -1 then (g 0, 0) else (tyR op, 0)
def opT (op : Int) (m : Nat) (f : Nat → Int) : Int × Int :=
  if tyK op = false then (0, 2)
  else if (m : Int) ≠ tyN op then (0, 2)
  else if op = 7 ∧ f 0 ≠ 0 then (0, 33)
  else if negS m f = true then (0, 33)
  else if op = 7 then tailT op (m - 1) (fun i => f (1 + i)) else tailT op m f
def opV (p : Int × Int) : Value := .tuple #[.int .i64 p.1, .int .i64 p.2]
theorem tyN_le (op : Int) : 0 ≤ tyN op ∧ tyN op ≤ 3 := by unfold tyN; split <;> (try split) <;> (try split) <;> omega
theorem tyR_free {op : Int} (h : op ≠ 7) : tyR op ≠ -1 := by unfold tyR; rw [if_neg h]; split <;> omega
def CapOk (v : Value) : Prop := ∀ A n c, v = .slice A n c → n ≤ c ∧ c ≤ 9223372036854775807
theorem opT7 {m : Nat} {f : Nat → Int} : opT 7 m f = if m ≠ 3 then (0, 2) else if f 0 ≠ 0 then (0, 33) else if negS m f = true then (0, 33) else if f 2 = f 1 then (f 1, 0) else (0, 33) := by
  have k7 : tyK 7 = true := by decide
  have n7 : tyN 7 = 3 := by decide
  have a7 : tyA 7 = -1 := by decide
  have r7 : tyR 7 = -1 := by decide
  by_cases hm : m = 3
  · subst hm
    by_cases h0 : f 0 = 0
    · by_cases hn : negS 3 f = true
      · simp [opT, k7, n7, h0, hn]
      · have hal : alikeB 2 (fun i => f (1 + i)) = (f 2 == f 1) := by unfold alikeB; simp [List.range, List.range.loop]
        by_cases he : f 2 = f 1
        · simp [opT, k7, n7, h0, hn, tailT, a7, r7, hal, he]
        · simp [opT, k7, n7, h0, hn, tailT, hal, he]
    · simp [opT, k7, n7, h0]
  · have hm' : ¬ ((m : Int) = 3) := by omega
    simp [opT, k7, n7, hm, hm']
/-- The sorts are the function's arguments. -/
def argsB (f : Fn) (m : Nat) (S : Nat → Int) : Bool := (List.range m).all fun i => S i == f.arg i
theorem args_yes {f : Fn} {m : Nat} {S : Nat → Int} (h : ∀ i, i < m → S i = f.arg i) : argsB f m S = true := by unfold argsB; rw [List.all_eq_true]; intro i hi; simp [h i (List.mem_range.1 hi)]
theorem args_no {f : Fn} {m i : Nat} {S : Nat → Int} (hi : i < m) (h : S i ≠ f.arg i) : argsB f m S = false := by
  unfold argsB
  rw [List.all_eq_false]
  exact ⟨i, List.mem_range.2 hi, by simpa using h⟩
def appT (g : Sg) (f : Int) (m : Nat) (S : Nat → Int) : Int × Int :=
  if checkG g = false then (0, 2)
  else if f < 0 ∨ (g.nf : Int) ≤ f then (0, 2)
  else if (m : Int) ≠ (g.F f.toNat).len then (0, 2)
  else if argsB (g.F f.toNat) m S = true then ((g.F f.toNat).res, 0) else (0, 33)
theorem check_fun {g : Sg} (h : checkG g = true) {i : Nat} (hi : i < g.nf) : funB g.ns (g.F i) = true := by
  unfold checkG at h
  simp only [Bool.and_eq_true] at h
  have := (upTo_iff _ _).1 h.1.2 i hi
  unfold okFn at this
  simp only [Bool.and_eq_true] at this
  exact this.2
theorem check_len {g : Sg} (h : checkG g = true) {i : Nat} (hi : i < g.nf) : 0 ≤ (g.F i).len ∧ (g.F i).len ≤ 3 := by
  have := check_fun h hi
  unfold funB at this
  simp only [Bool.and_eq_true, decide_eq_true_eq] at this
  exact this.1.1
def sortsN (N : Nat → Nd) (e : Nd) (i : Nat) : Int := (N (e.arg i).toNat).sort
/-- The sort that a node has, its Args standing in a table; and whether it has one. -/
def nodeT (g : Sg) (N : Nat → Nd) (e : Nd) : Int × Int := if e.op = 13 then appT g e.fn e.len.toNat (sortsN N e) else opT e.op e.len.toNat (sortsN N e)
/-- The node's Args stand in a table of n nodes. -/
structure InT (n : Nat) (e : Nd) : Prop where
  R : NdR e
  len0 : 0 ≤ e.len
  len3 : e.len ≤ 3
  arg : ∀ i : Nat, (i : Int) < e.len → 0 ≤ e.arg i ∧ e.arg i < n
def sortV (p : Int × Int) : Value := .tuple #[.int .i64 p.1, .bool (p.2 == 0)]
theorem own3 (w : World) (base : Nat) (hb : base ≤ w.heap.size) : OwnL (w.alloc (.cells #[.int .i64 0, .int .i64 0, .int .i64 0] 3)) base (.slice (some ⟨w.heap.size, 0, none⟩) 0 3) [] :=
  World.ownsRow_made w _ 3 hb (by unfold maxLen; omega) rfl
theorem cellsK.under {K : List (Nat × Nat × Value)} {B : Nat} {x y : World} (h : cellsK K x) (hb : Below B x y) (hK : ∀ a ∈ K, a.1 < B) : cellsK K y := by
  induction K with
  | nil => trivial
  | cons a K ih =>
    obtain ⟨b, o, v⟩ := a
    obtain ⟨⟨h0, h1⟩, h2⟩ := h
    exact ⟨⟨(hb.cell (p := ⟨b, o, none⟩) (hK (b, o, v) (by simp))).trans h0, Nat.lt_of_lt_of_le h1 hb.size⟩, ih h2 fun a ha => hK a (by simp [ha])⟩
theorem Bx.under {K : List (Nat × Nat × Value)} {B : Nat} {w x y : World} (h : Bx w K x) (hb : Below B x y) (hK : ∀ a ∈ K, a.1 < B) (hw : w.heap.size ≤ B) : Bx w K y :=
  ⟨h.cells.under hb hK, h.bel.trans (hb.mono hw)⟩
theorem range_snoc {f : Nat → Int} {j : Nat} : (List.range (j + 1)).map f = (List.range j).map f ++ [f j] := by rw [List.range_succ, List.map_append]; rfl
theorem OwnL.capOk {w : World} {b : Nat} {v : Value} {xs : List Int} (h : OwnL w b v xs) : CapOk v := by
  intro A n c hv
  rcases h.2 with ⟨rfl, _⟩ | ⟨g, cap, cur, rfl, _, _, h1, h2, _⟩
  · injection hv with _ e1 e2; omega
  · injection hv with _ e1 e2
    unfold maxLen at h2
    omega
/-- The node e, behind the nodes N, has the sort that it says. -/
def okNd (g : Sg) (N : Nat → Nd) (e : Nd) : Bool := ((nodeT g N e).2 == 0) && ((nodeT g N e).1 == e.sort)
noncomputable def tabT (g : Sg) (n : Nat) (N : Nat → Nd) : Int := if checkG g = false then 2 else if checkT n N ≠ 0 then 2 else if upTo n (fun i => okNd g N (N i)) = true then 0 else 33
theorem InT.of {n : Nat} {e : Nd} (hR : NdR e) {at_ : Int} (h : StandsP e at_) (ha : at_ ≤ n) : InT n e := by
  refine ⟨hR, h.len0, h.len3, fun i hi => ?_⟩
  have h3 := h.len3
  match i with
  | 0 => have := h.arg0.1 hi; omega
  | 1 => have := h.arg1.1 hi; omega
  | 2 => have := h.arg2.1 hi; omega
  | i + 3 => omega
theorem check_cases (n : Nat) (N : Nat → Nd) : checkT n N = 0 ∨ checkT n N = 2 := by
  rcases Classical.em (CheckP n N) with h | h
  · exact .inl (check_yes h)
  · exact .inr (check_not h)
def ndK (b : Nat) (e : Nd) : List (Nat × Nat × Value) := rowK b [.int .i8 e.op, .int .i8 e.len, .int .i64 e.a0, .int .i64 e.a1, .int .i64 e.a2, .int .i64 e.sort, .int .i64 e.fn, .int .i64 e.num] 0
theorem ndK_sort {b : Nat} {e : Nd} {x : World} {K : List (Nat × Nat × Value)} (h : cellsK (ndK b e ++ K) x) : x.cell? ⟨b, 5, none⟩ = some (.int .i64 e.sort) := h.2.2.2.2.2.1.1
end Go.Proofs.Ytecmoahadckomaa

namespace Go.Proofs.Ytecmoahadckomaa
open Go.RowKit
set_option maxRecDepth 100000

/-- So many sorts, each one this? -/
def alikeR (m : Nat) (f : Nat → Int) (n s : Int) : Bool := upTo m (fun i => f i == s) && ((m : Int) == n)
set_option maxHeartbeats 1000000 in
theorem RAlike_any (v : Value) (m : Nat) (f : Nat → Int) (n s : Int) (w : World) (hv : IntsAt w v m f) :
    Calls Try.prog 69 #[v, .int .i64 n, .int .i64 s] w fun e w' => e = .returned (.bool (alikeR m f n s)) ∧ w' = w := by
  obtain ⟨U, cu, rfl, hm, hR, hcu⟩ := hv
  have hcu' := Lib.hid hcu
  have hno := Lib.hid fun i (hi : i < m) (h : f i ≠ s) => show alikeR m f n s = false by unfold alikeR; rw [upTo_no hi (by simpa using h)]; rfl
  have hyes := Lib.hid fun (h : ∀ i, i < m → f i = s) => show alikeR m f n s = ((m : Int) == n) by unfold alikeR; rw [upTo_yes fun i hi => by simpa using h i hi]; rfl
  clear hcu hR
  go_enter Try.func69, Try.ntmps69
  go_wp2
  go_loopw [7] (fun i wr => ∃ j : Nat, j ≤ m ∧ i = .int .i64 j ∧ wr = w ∧ Hid (∀ k, k < j → f k = s)) (fun i _ => m - (intOf i).toNat)
  case atStart => exact ⟨0, Nat.zero_le _, rfl, rfl, fun k hk => absurd hk (Nat.not_lt_zero _)⟩
  case round =>
    obtain ⟨j, hj, rfl, rfl, hall⟩ := hrel
    by_cases hlt : j < m
    · have i1 : decide ((j : Int) < (m : Int)) = true := decide_eq_true (by omega)
      obtain ⟨b, o, rfl, hb, hc⟩ := hcu'.out (by omega)
      have rj := hc j hlt
      clear hc
      by_cases he : f j = s
      · have d1 : (f j != s) = false := by simpa using he
        have he' := Lib.hid he
        clear he
        go_wp2
        go_roundw
        case rel => exact ⟨j + 1, by omega, by go_num, trivial, fun k hk => by
          by_cases e : k = j
          · subst e; exact he'.out
          · exact hall.out k (by omega)⟩
        case measure => simp [intOf]; omega
      · have d1 : (f j != s) = true := by simpa using he
        have hF := Lib.hid (hno.out j hlt he)
        clear he
        go_wp2
        go_ret
        exact ⟨by rw [hF.out]; rfl, rfl⟩
    · have i1 : decide ((j : Int) < (m : Int)) = false := decide_eq_false (by omega)
      have hF := Lib.hid (hyes.out fun i hi => hall.out i (by omega))
      go_wp2
      go_ret
      exact ⟨by rw [hF.out]; rfl, rfl⟩
/-- How many Args a kind has; -1: none of these. -/
def manyR (op : Int) : Int := if tyK op then tyN op else -1
set_option maxHeartbeats 4000000 in
theorem RMany_any (op : Int) (w : World) (h8 : R8 op) :
    Calls Try.prog 68 #[.int .i8 op] w fun e w' => e = .returned (.int .i64 (manyR op)) ∧ w' = w := by
  obtain ⟨r0, r1⟩ := h8
  cases hk : tyK op with
  | true =>
    have hm : manyR op = tyN op := by unfold manyR; rw [hk]; rfl
    rw [hm]
    rcases tyop_cases hk with h | h | h | h | h | h | h | h | h | h | h | h | h
    all_goals
      subst h
      clear hk hm r0 r1
      go_enter Try.func68, Try.ntmps68
      go_wp2
      go_ret
      exact ⟨rfl, rfl⟩
  | false =>
    have hm : manyR op = -1 := by unfold manyR; rw [hk]; rfl
    rw [hm]
    unfold tyK at hk
    simp at hk
    have q0 : (op == 0) = false := by simp; omega
    have q1 : (op == 1) = false := by simp; omega
    have q2 : (op == 2) = false := by simp; omega
    have q3 : (op == 3) = false := by simp; omega
    have q4 : (op == 4) = false := by simp; omega
    have q5 : (op == 5) = false := by simp; omega
    have q6 : (op == 6) = false := by simp; omega
    have q7 : (op == 7) = false := by simp; omega
    have q8 : (op == 8) = false := by simp; omega
    have q9 : (op == 9) = false := by simp; omega
    have q10 : (op == 10) = false := by simp; omega
    have q11 : (op == 11) = false := by simp; omega
    have q12 : (op == 12) = false := by simp; omega
    clear hk hm
    go_enter Try.func68, Try.ntmps68
    go_wp2
    go_ret
    exact ⟨rfl, rfl⟩

/-! What the kinds ask, one by one. -/
theorem alikeB_of {m : Nat} {f : Nat → Int} {s : Int} (h : upTo m (fun i => f i == s) = true) : alikeB m f = true := by
  have h' := (upTo_iff _ _).1 h
  exact alike_yes fun i hi => by
    have a := h' i hi
    have b := h' 0 (by omega)
    simp at a b
    rw [a, b]
/-- A kind whose Args have all one sort s > -1. -/
theorem opT_all {op : Int} {m : Nat} {f : Nat → Int} (hk : tyK op = true) (h7 : op ≠ 7) (hm : (m : Int) = tyN op) (h0 : 0 < m) (ha : tyA op ≠ -1) (hn : negS m f = false) :
    opT op m f = if alikeR m f m (tyA op) = true then (tyR op, 0) else (0, 33) := by
  unfold opT
  rw [if_neg (by rw [hk]; simp), if_neg (fun h => h hm), if_neg (fun h => h7 h.1), if_neg (by rw [hn]; simp), if_neg h7]
  unfold tailT
  by_cases h : alikeR m f m (tyA op) = true
  · rw [if_pos h]
    unfold alikeR at h
    rw [Bool.and_eq_true] at h
    have h00 := (upTo_iff _ _).1 h.1 0 h0
    simp at h00
    rw [if_neg (by rw [alikeB_of h.1]; simp), if_neg (fun h' => h'.2.2 h00), if_neg (tyR_free h7)]
  · rw [if_neg h]
    by_cases hb : alikeB m f = false
    · rw [if_pos hb]
    · rw [if_neg hb]
      have hb' : alikeB m f = true := by simpa using hb
      refine if_pos ⟨h0, ha, fun e => h ?_⟩
      unfold alikeR
      rw [Bool.and_eq_true]
      refine ⟨upTo_yes fun i hi => ?_, by simp⟩
      unfold alikeB at hb'
      have := (List.all_eq_true.1 hb') i (List.mem_range.2 hi)
      simp at this
      simp [this, e]
/-- A kind without Args. -/
theorem opT_none {op : Int} {m : Nat} {f : Nat → Int} (h : op = 0 ∨ op = 10) (hm : m = 0) : opT op m f = (tyR op, 0) := by
  subst hm
  rcases h with rfl | rfl <;> rfl
theorem opT_eq {m : Nat} {f : Nat → Int} (hm : m = 2) (hn : negS m f = false) : opT 6 m f = if f 0 = f 1 then (0, 0) else (0, 33) := by
  subst hm
  have hal : alikeB 2 f = (f 1 == f 0) := by unfold alikeB; simp [List.range, List.range.loop]
  unfold opT
  rw [if_neg (by decide), if_neg (by decide), if_neg (fun h => absurd h.1 (by decide)), if_neg (by rw [hn]; simp), if_neg (by decide)]
  unfold tailT
  rw [hal]
  by_cases h : f 0 = f 1
  · rw [if_pos h, if_neg (by simp [h]), if_neg (fun h' => h'.2.1 (by decide)), if_neg (by decide)]
    try rfl
  · rw [if_neg h, if_pos (by simp; exact fun e => h e.symm)]
theorem opT_seven {m : Nat} {f : Nat → Int} (hm : m = 3) (hn : negS m f = false) : opT 7 m f = if f 0 = 0 ∧ f 1 = f 2 then (f 1, 0) else (0, 33) := by
  rw [opT7, if_neg (fun h => h hm)]
  by_cases h0 : f 0 = 0
  · rw [if_neg (fun h => h h0), if_neg (by rw [hn]; simp)]
    by_cases h1 : f 2 = f 1
    · rw [if_pos h1, if_pos ⟨h0, h1.symm⟩]
    · rw [if_neg h1, if_neg (fun h => h1 h.2.symm)]
  · rw [if_pos h0, if_neg (fun h => h0 h.1)]
theorem opT_neg {op : Int} {m : Nat} {f : Nat → Int} (hk : tyK op = true) (hm : (m : Int) = tyN op) (hn : negS m f = true) : opT op m f = (0, 33) := by
  unfold opT
  rw [if_neg (by rw [hk]; simp), if_neg (fun h => h hm)]
  split
  · rfl
  · first | rfl | rw [if_pos hn]
end Go.Proofs.Ytecmoahadckomaa

namespace Go.Proofs.Ytecmoahadckomaa
open Go.RowKit
set_option maxRecDepth 100000

set_option maxHeartbeats 16000000 in
theorem RTOp_any (op : Int) (v : Value) (m : Nat) (f : Nat → Int) (w : World) (h8 : R8 op) (hv : IntsAt w v m f) :
    Calls Try.prog 48 #[.int .i8 op, v] w fun e w' => e = .returned (opV (opT op m f)) ∧ Below w.heap.size w w' := by
  have hv' := Lib.hid hv
  have hMa := Lib.hid fun (x : World) => RMany_any op x h8
  have hAl := Lib.hid fun (n s : Int) => RAlike_any v m f n s w hv
  obtain ⟨U, cu, rfl, hm, hRu, hcu⟩ := hv
  have hcu' := Lib.hid hcu
  have hx0 := Lib.hid (Bx.nil w)
  clear hcu hRu h8
  by_cases hgood : tyK op = true ∧ (m : Int) = tyN op
  case neg =>
    have hF : Hid (opT op m f = (0, 2)) := by
      unfold Hid opT
      by_cases hk : tyK op = false
      · rw [if_pos hk]
      · rw [if_neg hk, if_pos (fun h => hgood ⟨by simpa using hk, h⟩)]
    cases hk : tyK op with
    | false =>
      have hM : manyR op = -1 := by unfold manyR; rw [hk]; rfl
      rw [hM] at hMa
      clear hgood hk hM
      go_enter Try.func48, Try.ntmps48
      go_wp2_with fail
      refine (hMa.out _).mono ?_
      rintro e w1 ⟨rfl, rfl⟩
      go_wp2_with fail
      exact bodyPost_ret (results_tmp2 rfl _ _ _) rfl ⟨by rw [hF.out]; rfl, hx0.out.bel⟩
    | true =>
      have hM : manyR op = tyN op := by unfold manyR; rw [hk]; rfl
      rw [hM] at hMa
      have hl := tyN_le op
      have hmn : (m : Int) ≠ tyN op := fun h => hgood ⟨hk, h⟩
      clear hgood hk hM
      generalize tyN op = rn at *
      have d0 : decide (rn < 0) = false := decide_eq_false (by omega)
      have d1 : ((m : Int) != rn) = true := by simpa using hmn
      clear hmn
      go_enter Try.func48, Try.ntmps48
      go_wp2_with fail
      refine (hMa.out _).mono ?_
      rintro e w1 ⟨rfl, rfl⟩
      go_wp2_with fail
      exact bodyPost_ret (results_tmp2 rfl _ _ _) rfl ⟨by rw [hF.out]; rfl, hx0.out.bel⟩
  obtain ⟨hk, hmn⟩ := hgood
  have hM : manyR op = (m : Int) := by unfold manyR; rw [hk, hmn]; rfl
  have hl := tyN_le op
  rw [← hmn] at hl
  have hm3 : m ≤ 3 := by omega
  rw [hM] at hMa
  have hneg := Lib.hid fun i (hi : i < m) (h : f i < 0) => opT_neg hk hmn (neg_yes hi h)
  have hk' := Lib.hid hk
  have hmn' := Lib.hid hmn
  have d0 : decide ((m : Int) < 0) = false := decide_eq_false (by omega)
  have d1 : ((m : Int) != (m : Int)) = false := by simp
  clear hk hmn hM hl
  go_enter Try.func48, Try.ntmps48
  go_wp2_with fail
  refine (hMa.out _).mono ?_
  rintro e w1 ⟨rfl, rfl⟩
  go_wp2_with fail
  go_loopw [7] (fun i wr => ∃ j : Nat, j ≤ m ∧ i = .int .i64 j ∧ wr = w1 ∧ Hid (∀ k, k < j → 0 ≤ f k)) (fun i _ => m - (intOf i).toNat)
  case atStart => exact ⟨0, Nat.zero_le _, rfl, rfl, fun k hk => absurd hk (Nat.not_lt_zero _)⟩
  case round =>
    obtain ⟨j, hj, rfl, rfl, hall⟩ := hrel
    by_cases hlt : j < m
    · have i1 : decide ((j : Int) < (m : Int)) = true := decide_eq_true (by omega)
      obtain ⟨b, o, rfl, hb, hc⟩ := hcu'.out (by omega)
      have rj := hc j hlt
      clear hc
      by_cases he : f j < 0
      · have e1 : decide (f j < 0) = true := decide_eq_true he
        have hF := Lib.hid (hneg.out j hlt he)
        clear he
        go_wp2_with fail
        exact bodyPost_ret (results_tmp2 rfl _ _ _) rfl ⟨by rw [hF.out]; rfl, hx0.out.bel⟩
      · have e1 : decide (f j < 0) = false := decide_eq_false he
        have he' := Lib.hid (show 0 ≤ f j by omega)
        clear he
        go_wp2_with fail
        go_roundw
        case rel => exact ⟨j + 1, by omega, by go_num, trivial, fun k hk => by
          by_cases e : k = j
          · subst e; exact he'.out
          · exact hall.out k (by omega)⟩
        case measure => simp [intOf]; omega
    · have i1 : decide ((j : Int) < (m : Int)) = false := decide_eq_false (by omega)
      have hn := Lib.hid (neg_no (m := m) (f := f) fun i hi => hall.out i (by omega))
      obtain rfl : j = m := by omega
      have hop := tyop_cases hk'.out
      have hmn2 := hmn'.out
      clear hMa hneg d0 d1 hlt hall
      by_cases hA : op = 0 ∨ op = 10
      · have hj0 : j = 0 := by rcases hA with rfl | rfl <;> (simp [tyN] at hmn2; omega)
        have hF := Lib.hid (opT_none (f := f) hA hj0)
        clear hop hmn2 hk' hmn' hj hm hm3
        rcases hA with rfl | rfl
        all_goals
          go_wp2_with fail
          exact bodyPost_ret (results_tmp2 rfl _ _ _) rfl ⟨by rw [hF.out]; rfl, hx0.out.bel⟩
      by_cases h6 : op = 6
      · subst h6
        have hj2 : j = 2 := by simp [tyN] at hmn2; omega
        have hF := Lib.hid (opT_eq (f := f) hj2 hn.out)
        subst hj2
        clear hop hmn2 hk' hmn' hj hm hm3 hA
        obtain ⟨b, o, rfl, hb, hc⟩ := hcu'.out (by omega)
        have r0 := hc 0 (by omega)
        have r1 := hc 1 (by omega)
        rw [Nat.add_zero] at r0
        clear hc
        by_cases he : f 0 = f 1
        · have e1 : (f 0 == f 1) = true := by simpa using he
          have hF2 : Hid (opT 6 2 f = (0, 0)) := by unfold Hid; rw [hF.out, if_pos he]
          clear he
          go_wp2_with fail
          go_quiet (fail)
          go_wp2_with fail
          exact bodyPost_ret (results_tmp2 rfl _ _ _) rfl ⟨by rw [hF2.out]; rfl, (hx0.out.drewN _).bel⟩
        · have e1 : (f 0 == f 1) = false := by simpa using he
          have hF2 : Hid (opT 6 2 f = (0, 33)) := by unfold Hid; rw [hF.out, if_neg he]
          clear he
          go_wp2_with fail
          go_quiet (fail)
          go_wp2_with fail
          exact bodyPost_ret (results_tmp2 rfl _ _ _) rfl ⟨by rw [hF2.out]; rfl, (hx0.out.drewN _).bel⟩
      by_cases h7 : op = 7
      · subst h7
        have hj2 : j = 3 := by simp [tyN] at hmn2; omega
        have hF := Lib.hid (opT_seven (f := f) hj2 hn.out)
        subst hj2
        clear hop hmn2 hk' hmn' hj hm hm3 hA h6
        obtain ⟨b, o, rfl, hb, hc⟩ := hcu'.out (by omega)
        have r0 := hc 0 (by omega)
        have r1 := hc 1 (by omega)
        have r2 := hc 2 (by omega)
        rw [Nat.add_zero] at r0
        clear hc
        by_cases he0 : f 0 = 0
        · have e0 : (f 0 == 0) = true := by simpa using he0
          by_cases he : f 1 = f 2
          · have e1 : (f 1 == f 2) = true := by simpa using he
            have hF2 : Hid (opT 7 3 f = (f 1, 0)) := by unfold Hid; rw [hF.out, if_pos ⟨he0, he⟩]
            clear he he0
            go_wp2_with fail
            go_quiet (fail)
            go_wp2_with fail
            exact bodyPost_ret (results_tmp2 rfl _ _ _) rfl ⟨by rw [hF2.out]; rfl, (hx0.out.drewN _).bel⟩
          · have e1 : (f 1 == f 2) = false := by simpa using he
            have hF2 : Hid (opT 7 3 f = (0, 33)) := by unfold Hid; rw [hF.out, if_neg (fun h => he h.2)]
            clear he he0
            go_wp2_with fail
            go_quiet (fail)
            go_wp2_with fail
            exact bodyPost_ret (results_tmp2 rfl _ _ _) rfl ⟨by rw [hF2.out]; rfl, (hx0.out.drewN _).bel⟩
        · have e0 : (f 0 == 0) = false := by simpa using he0
          have hF2 : Hid (opT 7 3 f = (0, 33)) := by unfold Hid; rw [hF.out, if_neg (fun h => he0 h.1)]
          clear he0
          go_wp2_with fail
          go_quiet (fail)
          go_wp2_with fail
          exact bodyPost_ret (results_tmp2 rfl _ _ _) rfl ⟨by rw [hF2.out]; rfl, (hx0.out.drewN _).bel⟩
      have hop2 : op = 1 ∨ op = 2 ∨ op = 3 ∨ op = 4 ∨ op = 5 ∨ op = 8 ∨ op = 9 ∨ op = 11 ∨ op = 12 := by omega
      have hj0 : 0 < j := by
        have : tyN op = 1 ∨ tyN op = 2 := by rcases hop2 with rfl | rfl | rfl | rfl | rfl | rfl | rfl | rfl | rfl <;> decide
        omega
      have ha : tyA op ≠ -1 := by rcases hop2 with rfl | rfl | rfl | rfl | rfl | rfl | rfl | rfl | rfl <;> decide
      have hF := Lib.hid (opT_all (f := f) hk'.out h7 hmn2 hj0 ha hn.out)
      clear hk' hmn' hm hn ha h6 h7 hA hop hcu' hv'
      rcases hop2 with rfl | rfl | rfl | rfl | rfl | rfl | rfl | rfl | rfl
      · have hG : Hid (opT 1 j f = if alikeR j f (j : Int) 0 = true then (0, 0) else (0, 33)) := by unfold Hid; exact hF.out
        clear hF hmn2
        go_wp2_with fail
        refine (hAl.out _ _).mono ?_
        rintro e w2 ⟨rfl, rfl⟩
        generalize alikeR j f (j : Int) 0 = q at *
        cases q with
        | true =>
          have hF2 : Hid (opT 1 j f = (0, 0)) := hG.out
          go_wp2_with fail
          exact bodyPost_ret (results_tmp2 rfl _ _ _) rfl ⟨by rw [hF2.out]; rfl, hx0.out.bel⟩
        | false =>
          have hF2 : Hid (opT 1 j f = (0, 33)) := hG.out
          go_wp2_with fail
          exact bodyPost_ret (results_tmp2 rfl _ _ _) rfl ⟨by rw [hF2.out]; rfl, hx0.out.bel⟩
      · have hG : Hid (opT 2 j f = if alikeR j f (j : Int) 0 = true then (0, 0) else (0, 33)) := by unfold Hid; exact hF.out
        clear hF hmn2
        go_wp2_with fail
        refine (hAl.out _ _).mono ?_
        rintro e w2 ⟨rfl, rfl⟩
        generalize alikeR j f (j : Int) 0 = q at *
        cases q with
        | true =>
          have hF2 : Hid (opT 2 j f = (0, 0)) := hG.out
          go_wp2_with fail
          exact bodyPost_ret (results_tmp2 rfl _ _ _) rfl ⟨by rw [hF2.out]; rfl, hx0.out.bel⟩
        | false =>
          have hF2 : Hid (opT 2 j f = (0, 33)) := hG.out
          go_wp2_with fail
          exact bodyPost_ret (results_tmp2 rfl _ _ _) rfl ⟨by rw [hF2.out]; rfl, hx0.out.bel⟩
      · have hG : Hid (opT 3 j f = if alikeR j f (j : Int) 0 = true then (0, 0) else (0, 33)) := by unfold Hid; exact hF.out
        clear hF hmn2
        go_wp2_with fail
        refine (hAl.out _ _).mono ?_
        rintro e w2 ⟨rfl, rfl⟩
        generalize alikeR j f (j : Int) 0 = q at *
        cases q with
        | true =>
          have hF2 : Hid (opT 3 j f = (0, 0)) := hG.out
          go_wp2_with fail
          exact bodyPost_ret (results_tmp2 rfl _ _ _) rfl ⟨by rw [hF2.out]; rfl, hx0.out.bel⟩
        | false =>
          have hF2 : Hid (opT 3 j f = (0, 33)) := hG.out
          go_wp2_with fail
          exact bodyPost_ret (results_tmp2 rfl _ _ _) rfl ⟨by rw [hF2.out]; rfl, hx0.out.bel⟩
      · have hG : Hid (opT 4 j f = if alikeR j f (j : Int) 0 = true then (0, 0) else (0, 33)) := by unfold Hid; exact hF.out
        clear hF hmn2
        go_wp2_with fail
        refine (hAl.out _ _).mono ?_
        rintro e w2 ⟨rfl, rfl⟩
        generalize alikeR j f (j : Int) 0 = q at *
        cases q with
        | true =>
          have hF2 : Hid (opT 4 j f = (0, 0)) := hG.out
          go_wp2_with fail
          exact bodyPost_ret (results_tmp2 rfl _ _ _) rfl ⟨by rw [hF2.out]; rfl, hx0.out.bel⟩
        | false =>
          have hF2 : Hid (opT 4 j f = (0, 33)) := hG.out
          go_wp2_with fail
          exact bodyPost_ret (results_tmp2 rfl _ _ _) rfl ⟨by rw [hF2.out]; rfl, hx0.out.bel⟩
      · have hG : Hid (opT 5 j f = if alikeR j f (j : Int) 0 = true then (0, 0) else (0, 33)) := by unfold Hid; exact hF.out
        clear hF hmn2
        go_wp2_with fail
        refine (hAl.out _ _).mono ?_
        rintro e w2 ⟨rfl, rfl⟩
        generalize alikeR j f (j : Int) 0 = q at *
        cases q with
        | true =>
          have hF2 : Hid (opT 5 j f = (0, 0)) := hG.out
          go_wp2_with fail
          exact bodyPost_ret (results_tmp2 rfl _ _ _) rfl ⟨by rw [hF2.out]; rfl, hx0.out.bel⟩
        | false =>
          have hF2 : Hid (opT 5 j f = (0, 33)) := hG.out
          go_wp2_with fail
          exact bodyPost_ret (results_tmp2 rfl _ _ _) rfl ⟨by rw [hF2.out]; rfl, hx0.out.bel⟩
      · have hG : Hid (opT 8 j f = if alikeR j f 2 1 = true then (0, 0) else (0, 33)) := by unfold Hid; rw [show (j : Int) = 2 from hmn2] at hF; exact hF.out
        clear hF hmn2
        go_wp2_with fail
        refine (hAl.out _ _).mono ?_
        rintro e w2 ⟨rfl, rfl⟩
        generalize alikeR j f 2 1 = q at *
        cases q with
        | true =>
          have hF2 : Hid (opT 8 j f = (0, 0)) := hG.out
          go_wp2_with fail
          exact bodyPost_ret (results_tmp2 rfl _ _ _) rfl ⟨by rw [hF2.out]; rfl, hx0.out.bel⟩
        | false =>
          have hF2 : Hid (opT 8 j f = (0, 33)) := hG.out
          go_wp2_with fail
          exact bodyPost_ret (results_tmp2 rfl _ _ _) rfl ⟨by rw [hF2.out]; rfl, hx0.out.bel⟩
      · have hG : Hid (opT 9 j f = if alikeR j f 2 1 = true then (0, 0) else (0, 33)) := by unfold Hid; rw [show (j : Int) = 2 from hmn2] at hF; exact hF.out
        clear hF hmn2
        go_wp2_with fail
        refine (hAl.out _ _).mono ?_
        rintro e w2 ⟨rfl, rfl⟩
        generalize alikeR j f 2 1 = q at *
        cases q with
        | true =>
          have hF2 : Hid (opT 9 j f = (0, 0)) := hG.out
          go_wp2_with fail
          exact bodyPost_ret (results_tmp2 rfl _ _ _) rfl ⟨by rw [hF2.out]; rfl, hx0.out.bel⟩
        | false =>
          have hF2 : Hid (opT 9 j f = (0, 33)) := hG.out
          go_wp2_with fail
          exact bodyPost_ret (results_tmp2 rfl _ _ _) rfl ⟨by rw [hF2.out]; rfl, hx0.out.bel⟩
      · have hG : Hid (opT 11 j f = if alikeR j f 1 1 = true then (1, 0) else (0, 33)) := by unfold Hid; rw [show (j : Int) = 1 from hmn2] at hF; exact hF.out
        clear hF hmn2
        go_wp2_with fail
        refine (hAl.out _ _).mono ?_
        rintro e w2 ⟨rfl, rfl⟩
        generalize alikeR j f 1 1 = q at *
        cases q with
        | true =>
          have hF2 : Hid (opT 11 j f = (1, 0)) := hG.out
          go_wp2_with fail
          exact bodyPost_ret (results_tmp2 rfl _ _ _) rfl ⟨by rw [hF2.out]; rfl, hx0.out.bel⟩
        | false =>
          have hF2 : Hid (opT 11 j f = (0, 33)) := hG.out
          go_wp2_with fail
          exact bodyPost_ret (results_tmp2 rfl _ _ _) rfl ⟨by rw [hF2.out]; rfl, hx0.out.bel⟩
      · have hG : Hid (opT 12 j f = if alikeR j f 2 1 = true then (0, 0) else (0, 33)) := by unfold Hid; rw [show (j : Int) = 2 from hmn2] at hF; exact hF.out
        clear hF hmn2
        go_wp2_with fail
        refine (hAl.out _ _).mono ?_
        rintro e w2 ⟨rfl, rfl⟩
        generalize alikeR j f 2 1 = q at *
        cases q with
        | true =>
          have hF2 : Hid (opT 12 j f = (0, 0)) := hG.out
          go_wp2_with fail
          exact bodyPost_ret (results_tmp2 rfl _ _ _) rfl ⟨by rw [hF2.out]; rfl, hx0.out.bel⟩
        | false =>
          have hF2 : Hid (opT 12 j f = (0, 33)) := hG.out
          go_wp2_with fail
          exact bodyPost_ret (results_tmp2 rfl _ _ _) rfl ⟨by rw [hF2.out]; rfl, hx0.out.bel⟩
end Go.Proofs.Ytecmoahadckomaa
