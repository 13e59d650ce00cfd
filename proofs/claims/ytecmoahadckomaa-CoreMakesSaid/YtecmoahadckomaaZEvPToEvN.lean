/- Plain: what nodes' values are. No program in sight. -/
import Derived.Test.YtecmoahadckomaaZValW
import Derived.Test.YtecmoahadckomaaZTyWR6OpR6OpB
import Derived.Test.YtecmoahadckomaaZIntsToNumW
import Derived.Test.YtecmoahadckomaaZTermBTermLGathL
namespace Go.Proofs.Ytecmoahadckomaa

def bI (b : Bool) : Int := if b then 1 else 0
theorem bI_two (b : Bool) : bI b = 0 ∨ bI b = 1 := by cases b <;> simp [bI]
/-- Is a less b at most n, all three within the bounds? -/
def atMB (a b n : Int) : Bool := mayB a && mayB b && mayB n && decide (a - b ≤ n)
/-- A node's value, of its Args' values; false: it overflows. -/
def wayT (g : Sg) (W : Wd) (e : Nd) (m : Nat) (V : Nat → Int) : Int × Bool :=
  if e.op = 0 then (1, true) else if e.op = 1 then (1 - V 0, true) else if e.op = 2 then (bI (V 0 == 1 && V 1 == 1), true) else if e.op = 3 then (bI (V 0 == 1 || V 1 == 1), true)
  else if e.op = 4 then (bI (V 0 != V 1), true) else if e.op = 5 then (bI (!(V 0 == 1 && V 1 == 0)), true) else if e.op = 6 then (bI (V 0 == V 1), true) else if e.op = 7 then (if V 0 = 1 then V 1 else V 2, true)
  else if e.op = 8 then (bI (decide (V 0 ≤ V 1)), true) else if e.op = 9 then (bI (decide (V 0 < V 1)), true) else if e.op = 10 then (e.num, true) else if e.op = 11 then (if addOk (V 0) e.num then (V 0 + e.num, true) else (0, false))
  else if e.op = 12 then (bI (atMB (V 0) (V 1) e.num), true) else ((valT g W e.fn m V).1, true)
/-- The values so far, and which overflowed. -/
abbrev St := Nat → Int × Bool
def argV (f : St) (e : Nd) (i : Nat) : Int := (f (e.arg i).toNat).1
def overE (f : St) (e : Nd) : Nat → Bool
  | 0 => false
  | k + 1 => overE f e k || (f (e.arg k).toNat).2
/-- One node's value more. -/
def stepE (g : Sg) (W : Wd) (N : Nat → Nd) (f : St) (x : Nat) : St := fun j =>
  if j = x then (if ((f x).2 || overE f (N x) (N x).len.toNat) = true then ((f x).1, true) else if (wayT g W (N x) (N x).len.toNat (argV f (N x))).2 = true then ((wayT g W (N x) (N x).len.toNat (argV f (N x))).1, false) else ((f x).1, true)) else f j
def foldS (g : Sg) (W : Wd) (N : Nat → Nd) (l : List Nat) : St := l.foldl (stepE g W N) (fun _ => (0, false))
theorem foldS_snoc (g : Sg) (W : Wd) (N : Nat → Nd) (l : List Nat) (x : Nat) : foldS g W N (l ++ [x]) = stepE g W N (foldS g W N l) x := by unfold foldS; rw [List.foldl_append]; rfl
def evF (g : Sg) (W : Wd) (N : Nat → Nd) (k : Nat) : St := foldS g W N (List.range k)
theorem evF_succ (g : Sg) (W : Wd) (N : Nat → Nd) (k : Nat) : evF g W N (k + 1) = stepE g W N (evF g W N k) k := by unfold evF; rw [List.range_succ, foldS_snoc]
theorem evF_old {g : Sg} {W : Wd} {N : Nat → Nd} {k j : Nat} (h : k ≤ j) : evF g W N k j = (0, false) := by
  induction k with
  | zero => rfl
  | succ k ih =>
    rw [evF_succ]
    unfold stepE
    rw [if_neg (by omega)]
    exact ih (by omega)
theorem evF_stay {g : Sg} {W : Wd} {N : Nat → Nd} {k j n : Nat} (h : j < k) (hn : k ≤ n) : evF g W N n j = evF g W N k j := by
  induction n with
  | zero => omega
  | succ n ih =>
    by_cases e : k = n + 1
    · subst e; rfl
    · rw [evF_succ]
      unfold stepE
      rw [if_neg (by omega)]
      exact ih (by omega)
theorem overE_congr {f f' : St} {e : Nd} {k : Nat} (h : ∀ i, i < k → f (e.arg i).toNat = f' (e.arg i).toNat) : overE f e k = overE f' e k := by
  induction k with
  | zero => rfl
  | succ k ih => unfold overE; rw [ih fun i hi => h i (by omega), h k (by omega)]
theorem padK_congr {m : Nat} {V V' : Nat → Int} (h : ∀ i, i < m → V i = V' i) : padK m V = padK m V' := by
  have hp : ∀ i, padZ m V i = padZ m V' i := fun i => by
    unfold padZ
    by_cases hi : i < m
    · rw [if_pos hi, if_pos hi, h i hi]
    · rw [if_neg hi, if_neg hi]
  unfold padK
  rw [hp, hp, hp]
theorem valT_congr {g : Sg} {W : Wd} {f : Int} {m : Nat} {V V' : Nat → Int} (h : ∀ i, i < m → V i = V' i) : valT g W f m V = valT g W f m V' := by unfold valT askT; rw [padK_congr h]
theorem opw_cases {op : Int} (h : ar op ≠ -2) : op = 0 ∨ op = 1 ∨ op = 2 ∨ op = 3 ∨ op = 4 ∨ op = 5 ∨ op = 6 ∨ op = 7 ∨ op = 8 ∨ op = 9 ∨ op = 10 ∨ op = 11 ∨ op = 12 ∨ op = 13 := by
  have : ¬ (op < 0 ∨ 13 < op) := fun h' => h (ar_out h')
  omega
theorem ar_len {e : Nd} {x : Int} (h : StandsP e x) (h13 : e.op ≠ 13) : e.len = ar e.op := h.len (by
  rcases opw_cases h.kind with ho | ho | ho | ho | ho | ho | ho | ho | ho | ho | ho | ho | ho | ho
  case inr.inr.inr.inr.inr.inr.inr.inr.inr.inr.inr.inr.inr => exact absurd ho h13
  all_goals (rw [ho]; decide))
/-- What a node that stands leans on: its Args' values alone. -/
theorem wayT_congr {g : Sg} {W : Wd} {e : Nd} {at_ : Int} (hs : StandsP e at_) {V V' : Nat → Int} (h : ∀ i : Nat, (i : Int) < e.len → V i = V' i) : wayT g W e e.len.toNat V = wayT g W e e.len.toNat V' := by
  have hl0 := hs.len0
  have hl : e.op ≠ 13 → e.len = ar e.op := ar_len hs
  rcases opw_cases hs.kind with ho | ho | ho | ho | ho | ho | ho | ho | ho | ho | ho | ho | ho | ho <;> rw [ho] at hl
  · simp [wayT, ho]
  · have hl : e.len = 1 := hl (by decide)
    have h0 := h 0 (by omega)
    simp [wayT, ho, h0]
  iterate 5
    · have hl : e.len = 2 := hl (by decide)
      have h0 := h 0 (by omega)
      have h1 := h 1 (by omega)
      simp [wayT, ho, h0, h1]
  · have hl : e.len = 3 := hl (by decide)
    have h0 := h 0 (by omega)
    have h1 := h 1 (by omega)
    have h2 := h 2 (by omega)
    simp [wayT, ho, h0, h1, h2]
  iterate 2
    · have hl : e.len = 2 := hl (by decide)
      have h0 := h 0 (by omega)
      have h1 := h 1 (by omega)
      simp [wayT, ho, h0, h1]
  · simp [wayT, ho]
  · have hl : e.len = 1 := hl (by decide)
    have h0 := h 0 (by omega)
    simp [wayT, ho, h0]
  · have hl : e.len = 2 := hl (by decide)
    have h0 := h 0 (by omega)
    have h1 := h 1 (by omega)
    simp [wayT, ho, h0, h1]
  · have e := valT_congr (g := g) (W := W) (f := e.fn) (m := e.len.toNat) (V := V) (V' := V') fun i hi => h i (by omega)
    simp [wayT, ho, e]
end Go.Proofs.Ytecmoahadckomaa

namespace Go.Proofs.Ytecmoahadckomaa

/-- All that is asked ahead: the world may be, the table too, and it is well sorted. -/
structure EvOk (g : Sg) (W : Wd) (n : Nat) (N : Nat → Nd) : Prop where
  may : mayW g W = true
  chk : CheckP n N
  srt : ∀ i, i < n → okNd g N (N i) = true
theorem mayW_nz {g : Sg} {W : Wd} (h : mayW g W = true) : W.nz = g.ns := by unfold mayW at h; simp only [Bool.and_eq_true, decide_eq_true_eq] at h; exact h.2.1
theorem mayW_size {g : Sg} {W : Wd} (h : mayW g W = true) {i : Nat} (hi : i < W.nz) : 1 ≤ W.Z i ∧ W.Z i ≤ 1000 := by
  unfold mayW at h; simp only [Bool.and_eq_true] at h
  have := (upTo_iff _ _).1 h.2.2.2.1 i hi
  unfold sizeB at this
  simpa using this
theorem mayW_fun {g : Sg} {W : Wd} (h : mayW g W = true) {i : Nat} (hi : i < W.nf) : fvB g.ns W (g.F i) (W.F i) = true := by
  unfold mayW at h; simp only [Bool.and_eq_true] at h
  exact (upTo_iff _ _).1 h.2.2.2.2 i hi
theorem isB_eq {ns : Nat} {W : Wd} {s v : Int} (hz : W.nz = ns) (h0 : 0 ≤ s) (h1 : s < (ns : Int) + 2) : isB ns W s v = if s = 0 then decide (0 ≤ v ∧ v ≤ 1) else if s = 1 then mayB v else decide (0 ≤ v ∧ v < W.Z (s - 2).toNat) := by
  unfold isB
  rw [if_neg (fun h => h hz), if_neg (by omega), if_neg (by omega)]
theorem isB_range {ns : Nat} {W : Wd} {s v : Int} (h : isB ns W s v = true) : W.nz = ns ∧ 0 ≤ s ∧ s < (ns : Int) + 2 := by
  unfold isB at h
  by_cases h1 : W.nz = ns
  · rw [if_neg (fun h => h h1)] at h
    by_cases h2 : s < 0
    · rw [if_pos h2] at h; cases h
    · rw [if_neg h2] at h
      by_cases h3 : (W.nz : Int) + 2 ≤ s
      · rw [if_pos h3] at h; cases h
      · exact ⟨h1, by omega, by omega⟩
  · rw [if_pos h1] at h; cases h
theorem isB_bool {ns : Nat} {W : Wd} {v : Int} (hz : W.nz = ns) : isB ns W 0 v = true ↔ v = 0 ∨ v = 1 := by
  rw [isB_eq hz (by omega) (by omega), if_pos rfl, decide_eq_true_eq]
  omega
theorem isB_int {ns : Nat} {W : Wd} {v : Int} (hz : W.nz = ns) : isB ns W 1 v = mayB v := by
  rw [isB_eq hz (by omega) (by omega), if_neg (by omega), if_pos rfl]
theorem isB_nought {g : Sg} {W : Wd} (h : mayW g W = true) {s : Int} (h0 : 0 ≤ s) (h1 : s < (g.ns : Int) + 2) : isB g.ns W s 0 = true := by
  rw [isB_eq (mayW_nz h) h0 h1]
  by_cases e0 : s = 0
  · rw [if_pos e0]; decide
  · rw [if_neg e0]
    by_cases e1 : s = 1
    · rw [if_pos e1]; decide
    · rw [if_neg e1]
      have := mayW_size h (i := (s - 2).toNat) (by rw [mayW_nz h]; omega)
      rw [decide_eq_true_eq]; omega
theorem isB_R {g : Sg} {W : Wd} (h : mayW g W = true) {s v : Int} (hv : isB g.ns W s v = true) : R64 v := by
  obtain ⟨hz, h0, h1⟩ := isB_range hv
  rw [isB_eq hz h0 h1] at hv
  unfold R64
  by_cases e0 : s = 0
  · rw [if_pos e0, decide_eq_true_eq] at hv; omega
  · rw [if_neg e0] at hv
    by_cases e1 : s = 1
    · rw [if_pos e1] at hv; have := may_lo hv; omega
    · rw [if_neg e1, decide_eq_true_eq] at hv
      have := mayW_size h (i := (s - 2).toNat) (by rw [hz]; omega)
      omega
theorem alike_iff {m : Nat} {f : Nat → Int} : alikeB m f = true ↔ ∀ i, i < m → f i = f 0 := by
  constructor
  · intro h i hi
    by_cases e : f i = f 0
    · exact e
    · rw [alike_no hi e] at h; cases h
  · exact alike_yes
/-- What the kinds but OpIte and OpApp ask, and their sort. -/
theorem opT_ok {op : Int} {m : Nat} {F : Nat → Int} {s : Int} (h : opT op m F = (s, 0)) (h7 : op ≠ 7) : (m : Int) = tyN op ∧ s = tyR op ∧ (tyA op ≠ -1 → ∀ i, i < m → F i = tyA op) := by
  have hfree := tyR_free h7
  unfold opT at h
  split at h
  · cases h
  · split at h
    · cases h
    · rename_i _ hm
      split at h
      · cases h
      · split at h
        · cases h
        · unfold tailT at h
          split at h
          · cases h
          · rename_i hal
            split at h
            · cases h
            · rename_i hA
              injection h with h1 _
              refine ⟨by omega, h1.symm, fun ha i hi => ?_⟩
              have hal' : alikeB m F = true := by simpa using hal
              rw [alike_iff.1 hal' i hi]
              by_cases e : F 0 = tyA op
              · exact e
              · exact absurd ⟨by omega, ha, e⟩ hA
theorem opT_ite {m : Nat} {F : Nat → Int} {s : Int} (h : opT 7 m F = (s, 0)) : m = 3 ∧ F 0 = 0 ∧ F 2 = F 1 ∧ s = F 1 := by
  rw [opT7] at h
  split at h
  · cases h
  · split at h
    · cases h
    · split at h
      · cases h
      · split at h
        · rename_i h3 h0 _ h2
          injection h with h1 _
          exact ⟨by omega, by omega, h2, h1.symm⟩
        · cases h
theorem okNd_iff {g : Sg} {N : Nat → Nd} {e : Nd} (h : okNd g N e = true) : nodeT g N e = (e.sort, 0) := by
  unfold okNd at h
  simp only [Bool.and_eq_true, beq_iff_eq] at h
  exact Prod.ext h.2 h.1
theorem appT_ok {g : Sg} {f : Int} {m : Nat} {S : Nat → Int} {s : Int} (h : appT g f m S = (s, 0)) : (0 ≤ f ∧ f < g.nf) ∧ (m : Int) = (g.F f.toNat).len ∧ (∀ i, i < m → S i = (g.F f.toNat).arg i) ∧ s = (g.F f.toNat).res := by
  unfold appT at h
  split at h
  · cases h
  · split at h
    · cases h
    · split at h
      · cases h
      · split at h
        · rename_i _ hf hm ha
          injection h with h1 _
          refine ⟨⟨by omega, by omega⟩, by omega, fun i hi => ?_, h1.symm⟩
          by_cases e : S i = (g.F f.toNat).arg i
          · exact e
          · rw [args_no hi e] at ha; cases ha
        · cases h
/-- Every node's sort is there. -/
theorem sort_there {g : Sg} {W : Wd} {n : Nat} {N : Nat → Nd} (h : EvOk g W n N) : ∀ i, i < n → 0 ≤ (N i).sort ∧ (N i).sort < (g.ns : Int) + 2 := by
  intro i
  induction i using Nat.strongRecOn with
  | ind i ih =>
    intro hi
    have hs := h.chk.all i hi
    have ho := okNd_iff (h.srt i hi)
    refine ⟨hs.sort0, ?_⟩
    unfold nodeT at ho
    by_cases h13 : (N i).op = 13
    · rw [if_pos h13] at ho
      obtain ⟨hf, _, _, hr⟩ := appT_ok ho
      have := check_fun (mayW_check h.may) (i := (N i).fn.toNat) (by omega)
      unfold funB thereB at this
      simp only [Bool.and_eq_true, decide_eq_true_eq] at this
      omega
    · rw [if_neg h13] at ho
      by_cases h7 : (N i).op = 7
      · rw [h7] at ho
        obtain ⟨h3, _, _, hr⟩ := opT_ite ho
        have hl := hs.arg1.1 (by omega)
        rw [hr]
        exact (ih _ (by omega) (by omega)).2
      · obtain ⟨_, hr, _⟩ := opT_ok ho h7
        have : tyR (N i).op = 0 ∨ tyR (N i).op = 1 := by unfold tyR; rw [if_neg h7]; split <;> simp
        omega
/-- The values so far are of their nodes' sorts. -/
def TypedS (g : Sg) (W : Wd) (n : Nat) (N : Nat → Nd) (f : St) : Prop := ∀ j, j < n → isB g.ns W (N j).sort (f j).1 = true
theorem val_typed {g : Sg} {W : Wd} (h : mayW g W = true) {f : Int} (hf : 0 ≤ f ∧ f < g.nf) (m : Nat) (V : Nat → Int) : isB g.ns W (g.F f.toNat).res (valT g W f m V).1 = true := by
  have hlt : f.toNat < g.nf := by omega
  have hfv := mayW_fun h (i := f.toNat) (by rw [mayW_nf h]; exact hlt)
  have hth := check_fun (mayW_check h) hlt
  unfold funB thereB at hth
  simp only [Bool.and_eq_true, decide_eq_true_eq] at hth
  unfold fvB at hfv
  simp only [Bool.and_eq_true, decide_eq_true_eq] at hfv
  unfold valT
  split
  · dsimp only
    unfold rowV
    split
    · rename_i x hx
      obtain ⟨i, hi, _, rfl⟩ := placeR_some _ _ _ _ hx
      have := (upTo_iff _ _).1 hfv.2.2.2 i hi
      unfold rowOkB at this
      simp only [Bool.and_eq_true] at this
      exact this.2
    · exact hfv.2.2.1
  · exact isB_nought h hth.1.2.1 hth.1.2.2
/-- What a way asks of its Args' values. -/
structure WayPre (e : Nd) (V : Nat → Int) : Prop where
  R : ∀ i : Nat, (i : Int) < e.len → R64 (V i)
  one : e.op = 1 ∨ e.op = 7 → V 0 = 0 ∨ V 0 = 1
  two : 2 ≤ e.op ∧ e.op ≤ 5 → (V 0 = 0 ∨ V 0 = 1) ∧ (V 1 = 0 ∨ V 1 = 1)
theorem way_pre {g : Sg} {W : Wd} {n : Nat} {N : Nat → Nd} (h : EvOk g W n N) {x : Nat} (hx : x < n) {V : Nat → Int} (hV : ∀ i : Nat, (i : Int) < (N x).len → isB g.ns W (sortsN N (N x) i) (V i) = true) : WayPre (N x) V := by
  have hz := mayW_nz h.may
  have hs := h.chk.all x hx
  have ho := okNd_iff (h.srt x hx)
  unfold nodeT at ho
  have hl0 := hs.len0
  refine ⟨fun i hi => isB_R h.may (hV i hi), fun hop => ?_, fun hop => ?_⟩
  · rw [if_neg (by omega)] at ho
    rcases hop with hop | hop
    · rw [hop] at ho
      obtain ⟨hm, _, ha⟩ := opT_ok ho (by decide)
      have hm : ((N x).len.toNat : Int) = 1 := hm
      have ha := ha (by decide) 0 (by omega)
      have h0 := hV 0 (by omega)
      rw [ha] at h0
      exact (isB_bool hz).1 h0
    · rw [hop] at ho
      obtain ⟨hm, ha, _, _⟩ := opT_ite ho
      have h0 := hV 0 (by omega)
      rw [ha] at h0
      exact (isB_bool hz).1 h0
  · rw [if_neg (by omega)] at ho
    have hop' : (N x).op = 2 ∨ (N x).op = 3 ∨ (N x).op = 4 ∨ (N x).op = 5 := by omega
    obtain ⟨hm, _, ha⟩ := opT_ok ho (by omega)
    have hm2 : tyN (N x).op = 2 := by rcases hop' with e | e | e | e <;> rw [e] <;> rfl
    have ha0 : tyA (N x).op = 0 := by rcases hop' with e | e | e | e <;> rw [e] <;> rfl
    rw [hm2] at hm
    have ha := ha (by rw [ha0]; decide)
    rw [ha0] at ha
    have h0 := hV 0 (by omega)
    have h1 := hV 1 (by omega)
    rw [ha 0 (by omega)] at h0
    rw [ha 1 (by omega)] at h1
    exact ⟨(isB_bool hz).1 h0, (isB_bool hz).1 h1⟩
/-- A way's value is of the node's sort. -/
theorem way_typed {g : Sg} {W : Wd} {n : Nat} {N : Nat → Nd} (h : EvOk g W n N) {x : Nat} (hx : x < n) {V : Nat → Int} (hV : ∀ i : Nat, (i : Int) < (N x).len → isB g.ns W (sortsN N (N x) i) (V i) = true)
    (hok : (wayT g W (N x) (N x).len.toNat V).2 = true) : isB g.ns W (N x).sort (wayT g W (N x) (N x).len.toNat V).1 = true := by
  have hz := mayW_nz h.may
  have hs := h.chk.all x hx
  have ho := okNd_iff (h.srt x hx)
  have hp := way_pre h hx hV
  unfold nodeT at ho
  have hl0 := hs.len0
  by_cases h13 : (N x).op = 13
  · rw [if_pos h13] at ho
    obtain ⟨hf, _, _, hr⟩ := appT_ok ho
    rw [hr]
    simp only [wayT, h13]
    exact val_typed h.may hf _ _
  · rw [if_neg h13] at ho
    by_cases h7 : (N x).op = 7
    · simp only [wayT, h7]
      rw [h7] at ho
      obtain ⟨hm, _, h2, hr⟩ := opT_ite ho
      have g1 := hV 1 (by omega)
      have g2 := hV 2 (by omega)
      rw [h2] at g2
      rw [hr]
      simp only [show ¬ ((7 : Int) = 0) by decide, show ¬ ((7 : Int) = 1) by decide, show ¬ ((7 : Int) = 2) by decide, show ¬ ((7 : Int) = 3) by decide, show ¬ ((7 : Int) = 4) by decide, show ¬ ((7 : Int) = 5) by decide, show ¬ ((7 : Int) = 6) by decide, if_false, if_true]
      by_cases e : V 0 = 1
      · rw [if_pos e]; exact g1
      · rw [if_neg e]; exact g2
    · obtain ⟨hm, hr, _⟩ := opT_ok ho h7
      rw [hr]
      rcases opw_cases hs.kind with e | e | e | e | e | e | e | e | e | e | e | e | e | e
      case inr.inr.inr.inr.inr.inr.inr.inl => exact absurd e h7
      case inr.inr.inr.inr.inr.inr.inr.inr.inr.inr.inl =>
        rw [e, show tyR 10 = 1 from rfl, isB_int hz]
        simp only [wayT, e]
        exact hs.num (.inl e)
      case inr.inr.inr.inr.inr.inr.inr.inr.inr.inr.inr.inl =>
        rw [e, show tyR 11 = 1 from rfl, isB_int hz]
        simp only [wayT, e] at hok ⊢
        simp only [show ¬ ((11 : Int) = 0) by decide, show ¬ ((11 : Int) = 1) by decide, show ¬ ((11 : Int) = 2) by decide, show ¬ ((11 : Int) = 3) by decide, show ¬ ((11 : Int) = 4) by decide, show ¬ ((11 : Int) = 5) by decide, show ¬ ((11 : Int) = 6) by decide, show ¬ ((11 : Int) = 7) by decide, show ¬ ((11 : Int) = 8) by decide, show ¬ ((11 : Int) = 9) by decide, show ¬ ((11 : Int) = 10) by decide, if_false, if_true] at hok ⊢
        by_cases ha : addOk (V 0) (N x).num = true
        · rw [if_pos ha]
          unfold addOk at ha
          simp only [Bool.and_eq_true] at ha
          exact ha.2
        · rw [if_neg ha] at hok; cases hok
      case inr.inr.inr.inr.inr.inr.inr.inr.inr.inr.inr.inr.inr => exact absurd e h13
      all_goals (rw [e]; simp only [wayT, e]; first | rw [show tyR 0 = 0 from rfl] | rw [show tyR 1 = 0 from rfl] | rw [show tyR 2 = 0 from rfl] | rw [show tyR 3 = 0 from rfl] | rw [show tyR 4 = 0 from rfl] | rw [show tyR 5 = 0 from rfl] | rw [show tyR 6 = 0 from rfl] | rw [show tyR 8 = 0 from rfl] | rw [show tyR 9 = 0 from rfl] | rw [show tyR 12 = 0 from rfl])
      all_goals rw [isB_bool hz]
      · exact .inr rfl
      · have := hp.one (.inl e); show 1 - V 0 = 0 ∨ 1 - V 0 = 1; omega
      all_goals exact bI_two _
theorem step_typed {g : Sg} {W : Wd} {n : Nat} {N : Nat → Nd} (h : EvOk g W n N) {f : St} (hf : TypedS g W n N f) {x : Nat} (hx : x < n) : TypedS g W n N (stepE g W N f x) := by
  intro j hj
  unfold stepE
  by_cases e : j = x
  · subst e
    rw [if_pos rfl]
    split
    · exact hf j hj
    · split
      · rename_i hok
        refine way_typed h hj (fun i hi => ?_) hok
        have ha := h.chk.argB hj (k := i) hi
        exact hf _ (by omega)
      · exact hf j hj
  · rw [if_neg e]; exact hf j hj
theorem init_typed {g : Sg} {W : Wd} {n : Nat} {N : Nat → Nd} (h : EvOk g W n N) : TypedS g W n N (fun _ => (0, false)) := fun j hj => isB_nought h.may (sort_there h j hj).1 (sort_there h j hj).2
theorem fold_typed {g : Sg} {W : Wd} {n : Nat} {N : Nat → Nd} (h : EvOk g W n N) (l : List Nat) (hl : ∀ x ∈ l, x < n) : TypedS g W n N (foldS g W N l) := by
  have : ∀ (l : List Nat) (f : St), (∀ x ∈ l, x < n) → TypedS g W n N f → TypedS g W n N (l.foldl (stepE g W N) f) := by
    intro l
    induction l with
    | nil => intro f _ hf; exact hf
    | cons x l ih => intro f hl hf; exact ih _ (fun y hy => hl y (by simp [hy])) (step_typed h hf (hl x (by simp)))
  exact this l _ hl (init_typed h)
theorem ev_typed {g : Sg} {W : Wd} {n : Nat} {N : Nat → Nd} (h : EvOk g W n N) {k : Nat} (hk : k ≤ n) : TypedS g W n N (evF g W N k) := fold_typed h _ fun x hx => by have := List.mem_range.1 hx; omega
end Go.Proofs.Ytecmoahadckomaa

namespace Go.Proofs.Ytecmoahadckomaa
open Go.RowKit
/-- The error of telling all values. -/
noncomputable def valsE (g : Sg) (W : Wd) (n : Nat) (N : Nat → Nd) : Int := if checkT n N ≠ 0 then 2 else if mayW g W = false then 2 else if tabT g n N ≠ 0 then 33 else 0
def BlsAt (w : World) (v : Value) (n : Nat) (f : Nat → Bool) : Prop :=
  ∃ (A : Option Addr) (c : Nat), v = .slice A n c ∧ (0 < n → ∃ b o, A = some ⟨b, o, none⟩ ∧ b < w.heap.size ∧ ∀ i, i < n → w.cell? ⟨b, o + i, none⟩ = some (.bool (f i)))
theorem BlsAt.below {w w' : World} {v : Value} {n : Nat} {f : Nat → Bool} (h : BlsAt w v n f) (hb : Below w.heap.size w w') : BlsAt w' v n f := by
  obtain ⟨A, c, rfl, hc⟩ := h
  refine ⟨A, c, rfl, fun h0 => ?_⟩
  obtain ⟨b, o, rfl, hlt, hc⟩ := hc h0
  exact ⟨b, o, rfl, Nat.lt_of_lt_of_le hlt hb.size, fun i hi => (hb.cell (p := ⟨b, o + i, none⟩) hlt).trans (hc i hi)⟩
/-- What Values hands back. -/
def ValsP (g : Sg) (W : Wd) (n : Nat) (N : Nat → Nd) (w : World) (z : Ending) (w' : World) : Prop :=
  (∃ vl vo, z = .returned (.tuple #[vl, vo, .int .i64 (valsE g W n N)]) ∧ (valsE g W n N = 0 → IntsAt w' vl n (fun j => (evF g W N n j).1) ∧ BlsAt w' vo n (fun j => (evF g W N n j).2) ∧ ∃ A, vl = .slice A n n) ∧ (valsE g W n N ≠ 0 → vl = .slice none 0 0 ∧ vo = .slice none 0 0)) ∧ Below w.heap.size w w'
/-- A node's value, or the error. -/
noncomputable def valueT (g : Sg) (W : Wd) (n : Nat) (N : Nat → Nd) (id : Int) : Int × Int :=
  if valsE g W n N ≠ 0 then (0, valsE g W n N) else if id < 0 then (0, 2) else if (n : Int) ≤ id then (0, 2) else if (evF g W N n id.toNat).2 = true then (0, 10) else ((evF g W N n id.toNat).1, 0)
theorem valsE_ok {g : Sg} {W : Wd} {n : Nat} {N : Nat → Nd} (h : valsE g W n N = 0) : EvOk g W n N := by
  unfold valsE at h
  by_cases h1 : checkT n N = 0
  · rw [if_neg (fun h' => h' h1)] at h
    by_cases h2 : mayW g W = false
    · rw [if_pos h2] at h; exact absurd h (by decide)
    · rw [if_neg h2] at h
      by_cases h3 : tabT g n N = 0
      · refine ⟨by simpa using h2, check_zero h1, fun i hi => ?_⟩
        by_cases hu : upTo n (fun i => okNd g N (N i)) = true
        · exact (upTo_iff _ _).1 hu i hi
        · unfold tabT at h3
          rw [if_neg (by rw [mayW_check (by simpa using h2 : mayW g W = true)]; simp), if_neg (fun h' => h' h1), if_neg hu] at h3
          exact absurd h3 (by decide)
      · rw [if_pos h3] at h; exact absurd h (by decide)
  · rw [if_pos h1] at h; exact absurd h (by decide)
theorem valsE_of {g : Sg} {W : Wd} {n : Nat} {N : Nat → Nd} (h : EvOk g W n N) : valsE g W n N = 0 := by
  have ht : tabT g n N = 0 := by
    unfold tabT
    rw [if_neg (by rw [mayW_check h.may]; simp), if_neg (by rw [check_yes h.chk]; simp), if_pos (upTo_yes h.srt)]
  unfold valsE
  rw [check_yes h.chk, h.may, ht]
  simp
theorem valsE_cases (g : Sg) (W : Wd) (n : Nat) (N : Nat → Nd) : valsE g W n N = 0 ∨ valsE g W n N = 2 ∨ valsE g W n N = 33 := by
  unfold valsE
  repeat' split
  all_goals simp
end Go.Proofs.Ytecmoahadckomaa

namespace Go.Proofs.Ytecmoahadckomaa

theorem overE_no {f : St} {e : Nd} {k : Nat} (h : ∀ i, i < k → (f (e.arg i).toNat).2 = false) : overE f e k = false := by
  induction k with
  | zero => rfl
  | succ k ih => unfold overE; rw [ih fun i hi => h i (by omega), h k (by omega)]; rfl
/-- A node's value is its way's, where none of its Args is over. -/
theorem ev_at {g : Sg} {W : Wd} {n : Nat} {N : Nat → Nd} (h : CheckP n N) {j : Nat} (hj : j < n) (hov : ∀ i : Nat, (i : Int) < (N j).len → (evF g W N n ((N j).arg i).toNat).2 = false)
    (hw : (wayT g W (N j) (N j).len.toNat (argV (evF g W N n) (N j))).2 = true) : evF g W N n j = ((wayT g W (N j) (N j).len.toNat (argV (evF g W N n) (N j))).1, false) := by
  have hs := h.all j hj
  have h0 := hs.len0
  have hold : ∀ i : Nat, (i : Int) < (N j).len → evF g W N j ((N j).arg i).toNat = evF g W N n ((N j).arg i).toNat := fun i hi => by
    have := h.argB hj (k := i) hi
    exact (evF_stay (by omega) (by omega)).symm
  have hc : wayT g W (N j) (N j).len.toNat (argV (evF g W N j) (N j)) = wayT g W (N j) (N j).len.toNat (argV (evF g W N n) (N j)) := wayT_congr hs fun i hi => by unfold argV; rw [hold i hi]
  have ho : overE (evF g W N j) (N j) (N j).len.toNat = false := overE_no fun i hi => by rw [hold i (by omega)]; exact hov i (by omega)
  rw [evF_stay (k := j + 1) (by omega) hj, evF_succ]
  unfold stepE
  rw [if_pos rfl, ho, evF_old (Nat.le_refl j), hc, hw]
  rfl
theorem ev_ext {g : Sg} {W : Wd} {N M : Nat → Nd} {k : Nat} (h : ∀ i, i < k → M i = N i) : evF g W M k = evF g W N k := by
  induction k with
  | zero => rfl
  | succ k ih =>
    rw [evF_succ, evF_succ, ih fun i hi => h i (by omega)]
    funext j
    unfold stepE
    rw [h k (by omega)]
theorem arg_ltE {e : Nd} {at_ : Int} {n : Nat} (h : StandsP e at_) (ha : at_ ≤ n) (hn : 0 < n) (i : Nat) : (e.arg i).toNat < n := by
  have key : ∀ j : Nat, argP e at_ j → (e.arg j).toNat < n := fun j hj => by
    by_cases hl : (j : Int) < e.len
    · have := hj.1 hl; omega
    · have := hj.2 (by omega); omega
  match i with
  | 0 => exact key 0 h.arg0
  | 1 => exact key 1 h.arg1
  | 2 => exact key 2 h.arg2
  | i + 3 => exact key 2 h.arg2
theorem okNd_congrE {g : Sg} {n : Nat} {N M : Nat → Nd} {e : Nd} {at_ : Int} (h : StandsP e at_) (ha : at_ ≤ n) (hn : 0 < n) (hM : ∀ i, i < n → M i = N i) : okNd g M e = okNd g N e := by
  have : sortsN M e = sortsN N e := by
    funext i
    unfold sortsN
    rw [hM _ (arg_ltE h ha hn i)]
  unfold okNd nodeT
  rw [this]
theorem valueT_ok {g : Sg} {W : Wd} {n : Nat} {N : Nat → Nd} (h : EvOk g W n N) {j : Nat} (hj : j < n) (h2 : (evF g W N n j).2 = false) : valueT g W n N j = ((evF g W N n j).1, 0) := by
  unfold valueT
  rw [if_neg (fun h' => h' (valsE_of h)), if_neg (by omega), if_neg (by omega), if_neg (by simp [h2])]
  rfl
theorem valueT_yes {g : Sg} {W : Wd} {n : Nat} {N : Nat → Nd} {id u : Int} (h : valueT g W n N id = (u, 0)) : EvOk g W n N ∧ (0 ≤ id ∧ id < n) ∧ (evF g W N n id.toNat).2 = false ∧ u = (evF g W N n id.toNat).1 := by
  unfold valueT at h
  by_cases h0 : valsE g W n N = 0
  · rw [if_neg (fun h' => h' h0)] at h
    split at h
    · cases h
    · split at h
      · cases h
      · split at h
        · cases h
        · rename_i h3
          injection h with h4 _
          exact ⟨valsE_ok h0, ⟨by omega, by omega⟩, by simpa using h3, h4.symm⟩
  · rw [if_pos h0] at h
    injection h with _ h4
    exact absurd h4 h0
theorem EvOk.put {g : Sg} {W : Wd} {n : Nat} {N : Nat → Nd} {e : Nd} (hE : EvOk g W n N) (hs : StandsP e n) (ho : okNd g N e = true) (hne : ∀ i, i < n → N i ≠ e) : EvOk g W (n + 1) (extN N n e) := by
  have h2 := hE.chk.two
  have hM : ∀ i, i < n → extN N n e i = N i := fun i hi => extN_lt hi
  refine ⟨hE.may, hE.chk.ext hs hne, fun i hi => ?_⟩
  by_cases e1 : i < n
  · rw [hM i e1, okNd_congrE (hE.chk.all i e1) (by omega) (by omega) hM]
    exact hE.srt i e1
  · obtain rfl : i = n := by omega
    rw [extN_at, okNd_congrE hs (Int.le_refl _) (by omega) hM]
    exact ho
/-- The value of a node that was put, or found. -/
theorem put_value {g : Sg} {W : Wd} {n : Nat} {N : Nat → Nd} {e : Nd} {m : Nat} {M : Nat → Nd} {a er : Int} (hE : EvOk g W n N) (hs : StandsP e n) (ho : okNd g N e = true) (hp : PutR n N e ((n : Int) + 1) m M a er)
    (hov : ∀ i : Nat, (i : Int) < e.len → (evF g W N n (e.arg i).toNat).2 = false) (hw : (wayT g W e e.len.toNat (argV (evF g W N n) e)).2 = true) :
    er = 0 ∧ valueT g W m M a = ((wayT g W e e.len.toNat (argV (evF g W N n) e)).1, 0) ∧ m ≤ n + 1 := by
  cases hp with
  | arg h => exact absurd ⟨hE.chk, hs⟩ h
  | many _ _ _ h => omega
  | there _ _ i hi he =>
    subst he
    have hv := ev_at hE.chk hi hov hw
    refine ⟨rfl, ?_, by omega⟩
    rw [valueT_ok hE hi (by rw [hv]), hv]
  | put _ _ hne _ =>
    have h2 := hE.chk.two
    have hE' := hE.put hs ho hne
    have hM : ∀ i, i < n → extN N n e i = N i := fun i hi => extN_lt hi
    have hst : ∀ i, evF g W (extN N n e) (n + 1) (e.arg i).toNat = evF g W N n (e.arg i).toNat := fun i => by
      have := arg_ltE hs (Int.le_refl _) (by omega) i
      rw [evF_stay (k := n) this (by omega), ev_ext hM]
    have ha : argV (evF g W (extN N n e) (n + 1)) e = argV (evF g W N n) e := by
      funext i
      unfold argV
      rw [hst]
    have hv := ev_at (g := g) (W := W) hE'.chk (j := n) (by omega) (by rw [extN_at]; intro i hi; rw [hst]; exact hov i hi) (by rw [extN_at, ha]; exact hw)
    rw [extN_at, ha] at hv
    refine ⟨rfl, ?_, by omega⟩
    rw [valueT_ok hE' (by omega) (by rw [hv]), hv]
/-- The negation's node, and the choice's. -/
def notN (a : Int) : Nd := ⟨1, 1, a, 0, 0, 0, 0, 0⟩
def iteN (a b c s : Int) : Nd := ⟨7, 3, a, b, c, s, 0, 0⟩
theorem standsE_not {a : Int} {n : Nat} (h0 : 0 ≤ a) (h1 : a < n) : StandsP (notN a) n := by
  refine ⟨by show ar 1 ≠ -2; decide, fun _ => rfl, by show (0 : Int) ≤ 1; decide, by show (1 : Int) ≤ 3; decide, by show (0 : Int) ≤ 0; decide, by show (0 : Int) < 6; decide, ⟨fun _ => ⟨h0, h1⟩, fun h => ?_⟩, ⟨fun h => ?_, fun _ => rfl⟩, ⟨fun h => ?_, fun _ => rfl⟩, by show (0 : Int) ≤ 0; decide, by show (0 : Int) < 12; decide, fun h => absurd rfl h, fun h => ?_, fun _ _ _ => rfl⟩
  · have h : (1 : Int) ≤ (0 : Nat) := h
    omega
  · have h : ((1 : Nat) : Int) < 1 := h
    omega
  · have h : ((2 : Nat) : Int) < 1 := h
    omega
  · have h : (1 : Int) = 10 ∨ (1 : Int) = 11 ∨ (1 : Int) = 12 := h
    omega
theorem stands_ite {a b c s : Int} {n : Nat} (ha : 0 ≤ a ∧ a < n) (hb : 0 ≤ b ∧ b < n) (hc : 0 ≤ c ∧ c < n) (hs : 0 ≤ s ∧ s < 6) : StandsP (iteN a b c s) n := by
  refine ⟨by show ar 7 ≠ -2; decide, fun _ => rfl, by show (0 : Int) ≤ 3; decide, by show (3 : Int) ≤ 3; decide, hs.1, hs.2, ⟨fun _ => ha, fun h => ?_⟩, ⟨fun _ => hb, fun h => ?_⟩, ⟨fun _ => hc, fun h => ?_⟩, by show (0 : Int) ≤ 0; decide, by show (0 : Int) < 12; decide, fun h => absurd rfl h, fun h => ?_, fun _ _ _ => rfl⟩
  · have h : (3 : Int) ≤ (0 : Nat) := h
    omega
  · have h : (3 : Int) ≤ (1 : Nat) := h
    omega
  · have h : (3 : Int) ≤ (2 : Nat) := h
    omega
  · have h : (7 : Int) = 10 ∨ (7 : Int) = 11 ∨ (7 : Int) = 12 := h
    omega
/-- What is known of the negation's node. -/
theorem not_law {g : Sg} {W : Wd} {n : Nat} {N : Nat → Nd} {a u : Int} (h : valueT g W n N a = (u, 0)) (h0 : (N a.toNat).sort = 0) {m : Nat} {M : Nat → Nd} {k er : Int} (hp : PutR n N (notN a) ((n : Int) + 1) m M k er) :
    er = 0 ∧ valueT g W m M k = (1 - u, 0) ∧ m ≤ n + 1 ∧ (u = 0 ∨ u = 1) := by
  obtain ⟨hE, ⟨a0, a1⟩, hov, hu⟩ := valueT_yes h
  have hz := mayW_nz hE.may
  have ht := ev_typed hE (Nat.le_refl n) a.toNat (by omega)
  rw [h0, isB_bool hz, ← hu] at ht
  have hF : sortsN N (notN a) 0 = 0 := h0
  have ho : okNd g N (notN a) = true := by
    have hneg : negS 1 (sortsN N (notN a)) = false := by simp [negS, hF]
    unfold okNd nodeT
    rw [if_neg (show ¬ ((notN a).op = 13) from fun h => absurd (show (1 : Int) = 13 from h) (by decide))]
    show ((opT 1 1 (sortsN N (notN a))).2 == 0 && (opT 1 1 (sortsN N (notN a))).1 == 0) = true
    unfold opT
    rw [if_neg (by decide), if_neg (by decide), if_neg (fun h => absurd h.1 (by decide)), hneg, if_neg (by decide), if_neg (by decide)]
    unfold tailT
    rw [if_neg (by simp [alikeB]), if_neg (by rw [hF]; decide), if_neg (by decide)]
    decide
  have hw : wayT g W (notN a) (notN a).len.toNat (argV (evF g W N n) (notN a)) = (1 - u, true) := by rw [hu]; rfl
  have := put_value hE (standsE_not a0 a1) ho hp (fun i hi => by
    have : i = 0 := by have : (i : Int) < 1 := hi; omega
    subst this
    exact hov) (by rw [hw])
  rw [hw] at this
  exact ⟨this.1, this.2.1, this.2.2, ht⟩
theorem ite_law {g : Sg} {W : Wd} {n : Nat} {N : Nat → Nd} {a b c u x y : Int} (ha : valueT g W n N a = (u, 0)) (hb : valueT g W n N b = (x, 0)) (hc : valueT g W n N c = (y, 0)) (h0 : (N a.toNat).sort = 0) (h1 : (N b.toNat).sort = (N c.toNat).sort)
    {m : Nat} {M : Nat → Nd} {k er : Int} (hp : PutR n N (iteN a b c (N b.toNat).sort) ((n : Int) + 1) m M k er) :
    er = 0 ∧ valueT g W m M k = (if u = 1 then x else y, 0) ∧ m ≤ n + 1 := by
  obtain ⟨hE, ⟨a0, a1⟩, hao, hu⟩ := valueT_yes ha
  obtain ⟨-, ⟨b0, b1⟩, hbo, hx⟩ := valueT_yes hb
  obtain ⟨-, ⟨c0, c1⟩, hco, hy⟩ := valueT_yes hc
  have hst := hE.chk.all b.toNat (by omega)
  have hF0 : sortsN N (iteN a b c (N b.toNat).sort) 0 = 0 := h0
  have hF1 : sortsN N (iteN a b c (N b.toNat).sort) 1 = (N b.toNat).sort := rfl
  have hF2 : sortsN N (iteN a b c (N b.toNat).sort) 2 = (N b.toNat).sort := h1.symm
  have ho : okNd g N (iteN a b c (N b.toNat).sort) = true := by
    have hneg : negS 3 (sortsN N (iteN a b c (N b.toNat).sort)) = false := by
      have h00 : (0 : Int) ≤ (N b.toNat).sort := hst.sort0
      simp [negS, List.range, List.range.loop, hF0, hF1, hF2]
      omega
    unfold okNd nodeT
    rw [if_neg (show ¬ ((iteN a b c (N b.toNat).sort).op = 13) from fun h => absurd (show (7 : Int) = 13 from h) (by decide))]
    show ((opT 7 3 (sortsN N (iteN a b c (N b.toNat).sort))).2 == 0 && (opT 7 3 (sortsN N (iteN a b c (N b.toNat).sort))).1 == (N b.toNat).sort) = true
    rw [opT7, if_neg (fun h => h rfl), if_neg (fun h => h hF0), hneg, if_neg (by decide), if_pos (by rw [hF1, hF2]), hF1]
    simp
  have hw : wayT g W (iteN a b c (N b.toNat).sort) (iteN a b c (N b.toNat).sort).len.toNat (argV (evF g W N n) (iteN a b c (N b.toNat).sort)) = (if u = 1 then x else y, true) := by
    rw [hu, hx, hy]; rfl
  have := put_value hE (stands_ite ⟨a0, a1⟩ ⟨b0, b1⟩ ⟨c0, c1⟩ ⟨hst.sort0, hst.sort6⟩) ho hp (fun i hi => by
    have : (i : Int) < 3 := hi
    have : i = 0 ∨ i = 1 ∨ i = 2 := by omega
    rcases this with rfl | rfl | rfl
    · exact hao
    · exact hbo
    · exact hco) (by rw [hw])
  rw [hw] at this
  exact this
end Go.Proofs.Ytecmoahadckomaa
