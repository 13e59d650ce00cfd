/- Plain: what nodes' values are. No program in sight. -/
import Derived.Test.YtecmoahadckomaaGreatZValWToGreatW12
import Derived.Test.YtecmoahadckomaaGreatZTyWToTyK
import Derived.Test.YtecmoahadckomaaGreatZIntsToNumW
import Derived.Test.YtecmoahadckomaaGreatZTermBToCheckB
import Derived.BigFrame
namespace Go.Proofs.YtecmoahadckomaaGreat

def bI (b : Bool) : Int := if b then 1 else 0
theorem bI_two (b : Bool) : bI b = 0 ∨ bI b = 1 := by cases b <;> simp [bI]
/-- Is a less b at most n, all three within the bounds? -/
def atMB (a b n : Int) : Bool := mayB a && mayB b && mayB n && decide (a - b ≤ n)
/-- A node's value, of its Args' values; false: it overflows. -/
def wayT (g : Sg) (W : Wd) (e : Nd) (m : Nat) (V : Nat → Int) : Int × Bool :=
  if e.op = 0 then (1, true) else if e.op = 1 then (1 - V 0, true) else if e.op = 2 then (bI (V 0 == 1 && V 1 == 1), true) else if e.op = 3 then (bI (V 0 == 1 || V 1 == 1), true)
  else if e.op = 4 then (bI (V 0 != V 1), true) else if e.op = 5 then (bI (!(V 0 == 1 && V 1 == 0)), true) else if e.op = 6 then (bI (V 0 == V 1), true) else if e.op = 7 then (if V 0 = 1 then V 1 else V 2, true)
  else if e.op = 8 then (bI (decide (V 0 ≤ V 1)), true) else if e.op = 9 then (bI (decide (V 0 < V 1)), true) else if e.op = 10 then (e.num, true) else if e.op = 11 then (if addOk (V 0) e.num then (V 0 + e.num, true) else (0, false))
  else if e.op = 12 then (bI (atMB (V 0) (V 1) e.num), true) else ((valT g W e.fn m V).1, true)
/-- The values so far, and which overflowed. -/
abbrev St := Nat → Int × Bool
def argV (f : St) (e : Nd) (i : Nat) : Int := (f (e.arg i).toNat).1
def overE (f : St) (e : Nd) : Nat → Bool
  | 0 => false
  | k + 1 => overE f e k || (f (e.arg k).toNat).2
/-- One node's value more. -/
def stepE (g : Sg) (W : Wd) (N : Nat → Nd) (f : St) (x : Nat) : St := fun j =>
  if j = x then (if ((f x).2 || overE f (N x) (N x).len.toNat) = true then ((f x).1, true) else if (wayT g W (N x) (N x).len.toNat (argV f (N x))).2 = true then ((wayT g W (N x) (N x).len.toNat (argV f (N x))).1, false) else ((f x).1, true)) else f j
def foldS (g : Sg) (W : Wd) (N : Nat → Nd) (l : List Nat) : St := l.foldl (stepE g W N) (fun _ => (0, false))
theorem foldS_snoc (g : Sg) (W : Wd) (N : Nat → Nd) (l : List Nat) (x : Nat) : foldS g W N (l ++ [x]) = stepE g W N (foldS g W N l) x := by unfold foldS; rw [List.foldl_append]; rfl
def evF (g : Sg) (W : Wd) (N : Nat → Nd) (k : Nat) : St := foldS g W N (List.range k)
theorem evF_succ (g : Sg) (W : Wd) (N : Nat → Nd) (k : Nat) : evF g W N (k + 1) = stepE g W N (evF g W N k) k := by unfold evF; rw [List.range_succ, foldS_snoc]
theorem evF_old {g : Sg} {W : Wd} {N : Nat → Nd} {k j : Nat} (h : k ≤ j) : evF g W N k j = (0, false) := by
  induction k with
  | zero => rfl
  | succ k ih =>
    rw [evF_succ]
    unfold stepE
    rw [if_neg (by omega)]
    exact ih (by omega)
theorem evF_stay {g : Sg} {W : Wd} {N : Nat → Nd} {k j n : Nat} (h : j < k) (hn : k ≤ n) : evF g W N n j = evF g W N k j := by
  induction n with
  | zero => omega
  | succ n ih =>
    by_cases e : k = n + 1
    · subst e; rfl
    · rw [evF_succ]
      unfold stepE
      rw [if_neg (by omega)]
      exact ih (by omega)
theorem overE_congr {f f' : St} {e : Nd} {k : Nat} (h : ∀ i, i < k → f (e.arg i).toNat = f' (e.arg i).toNat) : overE f e k = overE f' e k := by
  induction k with
  | zero => rfl
  | succ k ih => unfold overE; rw [ih fun i hi => h i (by omega), h k (by omega)]
theorem padK_congr {m : Nat} {V V' : Nat → Int} (h : ∀ i, i < m → V i = V' i) : padK m V = padK m V' := by
  have hp : ∀ i, padZ m V i = padZ m V' i := fun i => by
    unfold padZ
    by_cases hi : i < m
    · rw [if_pos hi, if_pos hi, h i hi]
    · rw [if_neg hi, if_neg hi]
  unfold padK
  rw [hp, hp, hp]
theorem valT_congr {g : Sg} {W : Wd} {f : Int} {m : Nat} {V V' : Nat → Int} (h : ∀ i, i < m → V i = V' i) : valT g W f m V = valT g W f m V' := by unfold valT askT; rw [padK_congr h]
theorem opw_cases {op : Int} (h : ar op ≠ -2) : op = 0 ∨ op = 1 ∨ op = 2 ∨ op = 3 ∨ op = 4 ∨ op = 5 ∨ op = 6 ∨ op = 7 ∨ op = 8 ∨ op = 9 ∨ op = 10 ∨ op = 11 ∨ op = 12 ∨ op = 13 := by
  have : ¬ (op < 0 ∨ 13 < op) := fun h' => h (ar_out h')
  omega
theorem ar_len {e : Nd} {x : Int} (h : StandsP e x) (h13 : e.op ≠ 13) : e.len = ar e.op := h.len (by
  rcases opw_cases h.kind with ho | ho | ho | ho | ho | ho | ho | ho | ho | ho | ho | ho | ho | ho
  case inr.inr.inr.inr.inr.inr.inr.inr.inr.inr.inr.inr.inr => exact absurd ho h13
  all_goals (rw [ho]; decide))
/-- What a node that stands leans on: its Args' values alone. -/
theorem wayT_congr {g : Sg} {W : Wd} {e : Nd} {at_ : Int} (hs : StandsP e at_) {V V' : Nat → Int} (h : ∀ i : Nat, (i : Int) < e.len → V i = V' i) : wayT g W e e.len.toNat V = wayT g W e e.len.toNat V' := by
  have hl0 := hs.len0
  have hl : e.op ≠ 13 → e.len = ar e.op := ar_len hs
  rcases opw_cases hs.kind with ho | ho | ho | ho | ho | ho | ho | ho | ho | ho | ho | ho | ho | ho <;> rw [ho] at hl
  · simp [wayT, ho]
  · have hl : e.len = 1 := hl (by decide)
    have h0 := h 0 (by omega)
    simp [wayT, ho, h0]
  iterate 5
    · have hl : e.len = 2 := hl (by decide)
      have h0 := h 0 (by omega)
      have h1 := h 1 (by omega)
      simp [wayT, ho, h0, h1]
  · have hl : e.len = 3 := hl (by decide)
    have h0 := h 0 (by omega)
    have h1 := h 1 (by omega)
    have h2 := h 2 (by omega)
    simp [wayT, ho, h0, h1, h2]
  iterate 2
    · have hl : e.len = 2 := hl (by decide)
      have h0 := h 0 (by omega)
      have h1 := h 1 (by omega)
      simp [wayT, ho, h0, h1]
  · simp [wayT, ho]
  · have hl : e.len = 1 := hl (by decide)
    have h0 := h 0 (by omega)
    simp [wayT, ho, h0]
  · have hl : e.len = 2 := hl (by decide)
    have h0 := h 0 (by omega)
    have h1 := h 1 (by omega)
    simp [wayT, ho, h0, h1]
  · have e := valT_congr (g := g) (W := W) (f := e.fn) (m := e.len.toNat) (V := V) (V' := V') fun i hi => h i (by omega)
    simp [wayT, ho, e]
end Go.Proofs.YtecmoahadckomaaGreat

namespace Go.Proofs.YtecmoahadckomaaGreat

/-- All that is asked ahead: the world may be, the table too, and it is well sorted. -/
structure EvOk (g : Sg) (W : Wd) (n : Nat) (N : Nat → Nd) : Prop where
  may : mayW g W = true
  chk : CheckP n N
  srt : ∀ i, i < n → okNd g N (N i) = true
theorem mayW_nz {g : Sg} {W : Wd} (h : mayW g W = true) : W.nz = g.ns := by unfold mayW at h; simp only [Bool.and_eq_true, decide_eq_true_eq] at h; exact h.2.1
theorem mayW_size {g : Sg} {W : Wd} (h : mayW g W = true) {i : Nat} (hi : i < W.nz) : 1 ≤ W.Z i ∧ W.Z i ≤ 1000 := by
  unfold mayW at h; simp only [Bool.and_eq_true] at h
  have := (upTo_iff _ _).1 h.2.2.2.1 i hi
  unfold sizeB at this
  simpa using this
theorem mayW_fun {g : Sg} {W : Wd} (h : mayW g W = true) {i : Nat} (hi : i < W.nf) : fvB g.ns W (g.F i) (W.F i) = true := by
  unfold mayW at h; simp only [Bool.and_eq_true] at h
  exact (upTo_iff _ _).1 h.2.2.2.2 i hi
theorem isB_eq {ns : Nat} {W : Wd} {s v : Int} (hz : W.nz = ns) (h0 : 0 ≤ s) (h1 : s < (ns : Int) + 2) : isB ns W s v = if s = 0 then decide (0 ≤ v ∧ v ≤ 1) else if s = 1 then mayB v else decide (0 ≤ v ∧ v < W.Z (s - 2).toNat) := by
  unfold isB
  rw [if_neg (fun h => h hz), if_neg (by omega), if_neg (by omega)]
theorem isB_range {ns : Nat} {W : Wd} {s v : Int} (h : isB ns W s v = true) : W.nz = ns ∧ 0 ≤ s ∧ s < (ns : Int) + 2 := by
  unfold isB at h
  by_cases h1 : W.nz = ns
  · rw [if_neg (fun h => h h1)] at h
    by_cases h2 : s < 0
    · rw [if_pos h2] at h; cases h
    · rw [if_neg h2] at h
      by_cases h3 : (W.nz : Int) + 2 ≤ s
      · rw [if_pos h3] at h; cases h
      · exact ⟨h1, by omega, by omega⟩
  · rw [if_pos h1] at h; cases h
theorem isB_bool {ns : Nat} {W : Wd} {v : Int} (hz : W.nz = ns) : isB ns W 0 v = true ↔ v = 0 ∨ v = 1 := by
  rw [isB_eq hz (by omega) (by omega), if_pos rfl, decide_eq_true_eq]
  omega
theorem isB_int {ns : Nat} {W : Wd} {v : Int} (hz : W.nz = ns) : isB ns W 1 v = mayB v := by
  rw [isB_eq hz (by omega) (by omega), if_neg (by omega), if_pos rfl]
theorem isB_nought {g : Sg} {W : Wd} (h : mayW g W = true) {s : Int} (h0 : 0 ≤ s) (h1 : s < (g.ns : Int) + 2) : isB g.ns W s 0 = true := by
  rw [isB_eq (mayW_nz h) h0 h1]
  by_cases e0 : s = 0
  · rw [if_pos e0]; decide
  · rw [if_neg e0]
    by_cases e1 : s = 1
    · rw [if_pos e1]; decide
    · rw [if_neg e1]
      have := mayW_size h (i := (s - 2).toNat) (by rw [mayW_nz h]; omega)
      rw [decide_eq_true_eq]; omega
theorem isB_R {g : Sg} {W : Wd} (h : mayW g W = true) {s v : Int} (hv : isB g.ns W s v = true) : R64 v := by
  obtain ⟨hz, h0, h1⟩ := isB_range hv
  rw [isB_eq hz h0 h1] at hv
  unfold R64
  by_cases e0 : s = 0
  · rw [if_pos e0, decide_eq_true_eq] at hv; omega
  · rw [if_neg e0] at hv
    by_cases e1 : s = 1
    · rw [if_pos e1] at hv; have := may_lo hv; omega
    · rw [if_neg e1, decide_eq_true_eq] at hv
      have := mayW_size h (i := (s - 2).toNat) (by rw [hz]; omega)
      omega
theorem alike_iff {m : Nat} {f : Nat → Int} : alikeB m f = true ↔ ∀ i, i < m → f i = f 0 := by
  constructor
  · intro h i hi
    by_cases e : f i = f 0
    · exact e
    · rw [alike_no hi e] at h; cases h
  · exact alike_yes
/-- What the kinds but OpIte and OpApp ask, and their sort. -/
theorem opT_ok {op : Int} {m : Nat} {F : Nat → Int} {s : Int} (h : opT op m F = (s, 0)) (h7 : op ≠ 7) : (m : Int) = tyN op ∧ s = tyR op ∧ (tyA op ≠ -1 → ∀ i, i < m → F i = tyA op) := by
  have hfree := tyR_free h7
  unfold opT at h
  split at h
  · cases h
  · split at h
    · cases h
    · rename_i _ hm
      split at h
      · cases h
      · split at h
        · cases h
        · unfold tailT at h
          split at h
          · cases h
          · rename_i hal
            split at h
            · cases h
            · rename_i hA
              injection h with h1 _
              refine ⟨by omega, h1.symm, fun ha i hi => ?_⟩
              have hal' : alikeB m F = true := by simpa using hal
              rw [alike_iff.1 hal' i hi]
              by_cases e : F 0 = tyA op
              · exact e
              · exact absurd ⟨by omega, ha, e⟩ hA
theorem opT_ite {m : Nat} {F : Nat → Int} {s : Int} (h : opT 7 m F = (s, 0)) : m = 3 ∧ F 0 = 0 ∧ F 2 = F 1 ∧ s = F 1 := by
  rw [opT7] at h
  split at h
  · cases h
  · split at h
    · cases h
    · split at h
      · cases h
      · split at h
        · rename_i h3 h0 _ h2
          injection h with h1 _
          exact ⟨by omega, by omega, h2, h1.symm⟩
        · cases h
theorem okNd_iff {g : Sg} {N : Nat → Nd} {e : Nd} (h : okNd g N e = true) : nodeT g N e = (e.sort, 0) := by
  unfold okNd at h
  simp only [Bool.and_eq_true, beq_iff_eq] at h
  exact Prod.ext h.2 h.1
theorem appT_ok {g : Sg} {f : Int} {m : Nat} {S : Nat → Int} {s : Int} (h : appT g f m S = (s, 0)) : (0 ≤ f ∧ f < g.nf) ∧ (m : Int) = (g.F f.toNat).len ∧ (∀ i, i < m → S i = (g.F f.toNat).arg i) ∧ s = (g.F f.toNat).res := by
  unfold appT at h
  split at h
  · cases h
  · split at h
    · cases h
    · split at h
      · cases h
      · split at h
        · rename_i _ hf hm ha
          injection h with h1 _
          refine ⟨⟨by omega, by omega⟩, by omega, fun i hi => ?_, h1.symm⟩
          by_cases e : S i = (g.F f.toNat).arg i
          · exact e
          · rw [args_no hi e] at ha; cases ha
        · cases h
/-- Every node's sort is there. -/
theorem sort_there {g : Sg} {W : Wd} {n : Nat} {N : Nat → Nd} (h : EvOk g W n N) : ∀ i, i < n → 0 ≤ (N i).sort ∧ (N i).sort < (g.ns : Int) + 2 := by
  intro i
  induction i using Nat.strongRecOn with
  | ind i ih =>
    intro hi
    have hs := h.chk.all i hi
    have ho := okNd_iff (h.srt i hi)
    refine ⟨hs.sort0, ?_⟩
    unfold nodeT at ho
    by_cases h13 : (N i).op = 13
    · rw [if_pos h13] at ho
      obtain ⟨hf, _, _, hr⟩ := appT_ok ho
      have := check_fun (mayW_check h.may) (i := (N i).fn.toNat) (by omega)
      unfold funB thereB at this
      simp only [Bool.and_eq_true, decide_eq_true_eq] at this
      omega
    · rw [if_neg h13] at ho
      by_cases h7 : (N i).op = 7
      · rw [h7] at ho
        obtain ⟨h3, _, _, hr⟩ := opT_ite ho
        have hl := hs.arg1.1 (by omega)
        rw [hr]
        exact (ih _ (by omega) (by omega)).2
      · obtain ⟨_, hr, _⟩ := opT_ok ho h7
        have : tyR (N i).op = 0 ∨ tyR (N i).op = 1 := by unfold tyR; rw [if_neg h7]; split <;> simp
        omega
/-- The values so far are of their nodes' sorts. -/
def TypedS (g : Sg) (W : Wd) (n : Nat) (N : Nat → Nd) (f : St) : Prop := ∀ j, j < n → isB g.ns W (N j).sort (f j).1 = true
theorem val_typed {g : Sg} {W : Wd} (h : mayW g W = true) {f : Int} (hf : 0 ≤ f ∧ f < g.nf) (m : Nat) (V : Nat → Int) : isB g.ns W (g.F f.toNat).res (valT g W f m V).1 = true := by
  have hlt : f.toNat < g.nf := by omega
  have hfv := mayW_fun h (i := f.toNat) (by rw [mayW_nf h]; exact hlt)
  have hth := check_fun (mayW_check h) hlt
  unfold funB thereB at hth
  simp only [Bool.and_eq_true, decide_eq_true_eq] at hth
  unfold fvB at hfv
  simp only [Bool.and_eq_true, decide_eq_true_eq] at hfv
  unfold valT
  split
  · dsimp only
    unfold rowV
    split
    · rename_i x hx
      obtain ⟨i, hi, _, rfl⟩ := placeR_some _ _ _ _ hx
      have := (upTo_iff _ _).1 hfv.2.2.2 i hi
      unfold rowOkB at this
      simp only [Bool.and_eq_true] at this
      exact this.2
    · exact hfv.2.2.1
  · exact isB_nought h hth.1.2.1 hth.1.2.2
/-- What a way asks of its Args' values. -/
structure WayPre (e : Nd) (V : Nat → Int) : Prop where
  R : ∀ i : Nat, (i : Int) < e.len → R64 (V i)
  one : e.op = 1 ∨ e.op = 7 → V 0 = 0 ∨ V 0 = 1
  two : 2 ≤ e.op ∧ e.op ≤ 5 → (V 0 = 0 ∨ V 0 = 1) ∧ (V 1 = 0 ∨ V 1 = 1)
theorem way_pre {g : Sg} {W : Wd} {n : Nat} {N : Nat → Nd} (h : EvOk g W n N) {x : Nat} (hx : x < n) {V : Nat → Int} (hV : ∀ i : Nat, (i : Int) < (N x).len → isB g.ns W (sortsN N (N x) i) (V i) = true) : WayPre (N x) V := by
  have hz := mayW_nz h.may
  have hs := h.chk.all x hx
  have ho := okNd_iff (h.srt x hx)
  unfold nodeT at ho
  have hl0 := hs.len0
  refine ⟨fun i hi => isB_R h.may (hV i hi), fun hop => ?_, fun hop => ?_⟩
  · rw [if_neg (by omega)] at ho
    rcases hop with hop | hop
    · rw [hop] at ho
      obtain ⟨hm, _, ha⟩ := opT_ok ho (by decide)
      have hm : ((N x).len.toNat : Int) = 1 := hm
      have ha := ha (by decide) 0 (by omega)
      have h0 := hV 0 (by omega)
      rw [ha] at h0
      exact (isB_bool hz).1 h0
    · rw [hop] at ho
      obtain ⟨hm, ha, _, _⟩ := opT_ite ho
      have h0 := hV 0 (by omega)
      rw [ha] at h0
      exact (isB_bool hz).1 h0
  · rw [if_neg (by omega)] at ho
    have hop' : (N x).op = 2 ∨ (N x).op = 3 ∨ (N x).op = 4 ∨ (N x).op = 5 := by omega
    obtain ⟨hm, _, ha⟩ := opT_ok ho (by omega)
    have hm2 : tyN (N x).op = 2 := by rcases hop' with e | e | e | e <;> rw [e] <;> rfl
    have ha0 : tyA (N x).op = 0 := by rcases hop' with e | e | e | e <;> rw [e] <;> rfl
    rw [hm2] at hm
    have ha := ha (by rw [ha0]; decide)
    rw [ha0] at ha
    have h0 := hV 0 (by omega)
    have h1 := hV 1 (by omega)
    rw [ha 0 (by omega)] at h0
    rw [ha 1 (by omega)] at h1
    exact ⟨(isB_bool hz).1 h0, (isB_bool hz).1 h1⟩
/-- A way's value is of the node's sort. -/
theorem way_typed {g : Sg} {W : Wd} {n : Nat} {N : Nat → Nd} (h : EvOk g W n N) {x : Nat} (hx : x < n) {V : Nat → Int} (hV : ∀ i : Nat, (i : Int) < (N x).len → isB g.ns W (sortsN N (N x) i) (V i) = true)
    (hok : (wayT g W (N x) (N x).len.toNat V).2 = true) : isB g.ns W (N x).sort (wayT g W (N x) (N x).len.toNat V).1 = true := by
  have hz := mayW_nz h.may
  have hs := h.chk.all x hx
  have ho := okNd_iff (h.srt x hx)
  have hp := way_pre h hx hV
  unfold nodeT at ho
  have hl0 := hs.len0
  by_cases h13 : (N x).op = 13
  · rw [if_pos h13] at ho
    obtain ⟨hf, _, _, hr⟩ := appT_ok ho
    rw [hr]
    simp only [wayT, h13]
    exact val_typed h.may hf _ _
  · rw [if_neg h13] at ho
    by_cases h7 : (N x).op = 7
    · simp only [wayT, h7]
      rw [h7] at ho
      obtain ⟨hm, _, h2, hr⟩ := opT_ite ho
      have g1 := hV 1 (by omega)
      have g2 := hV 2 (by omega)
      rw [h2] at g2
      rw [hr]
      simp only [show ¬ ((7 : Int) = 0) by decide, show ¬ ((7 : Int) = 1) by decide, show ¬ ((7 : Int) = 2) by decide, show ¬ ((7 : Int) = 3) by decide, show ¬ ((7 : Int) = 4) by decide, show ¬ ((7 : Int) = 5) by decide, show ¬ ((7 : Int) = 6) by decide, if_false, if_true]
      by_cases e : V 0 = 1
      · rw [if_pos e]; exact g1
      · rw [if_neg e]; exact g2
    · obtain ⟨hm, hr, _⟩ := opT_ok ho h7
      rw [hr]
      rcases opw_cases hs.kind with e | e | e | e | e | e | e | e | e | e | e | e | e | e
      case inr.inr.inr.inr.inr.inr.inr.inl => exact absurd e h7
      case inr.inr.inr.inr.inr.inr.inr.inr.inr.inr.inl =>
        rw [e, show tyR 10 = 1 from rfl, isB_int hz]
        simp only [wayT, e]
        exact hs.num (.inl e)
      case inr.inr.inr.inr.inr.inr.inr.inr.inr.inr.inr.inl =>
        rw [e, show tyR 11 = 1 from rfl, isB_int hz]
        simp only [wayT, e] at hok ⊢
        simp only [show ¬ ((11 : Int) = 0) by decide, show ¬ ((11 : Int) = 1) by decide, show ¬ ((11 : Int) = 2) by decide, show ¬ ((11 : Int) = 3) by decide, show ¬ ((11 : Int) = 4) by decide, show ¬ ((11 : Int) = 5) by decide, show ¬ ((11 : Int) = 6) by decide, show ¬ ((11 : Int) = 7) by decide, show ¬ ((11 : Int) = 8) by decide, show ¬ ((11 : Int) = 9) by decide, show ¬ ((11 : Int) = 10) by decide, if_false, if_true] at hok ⊢
        by_cases ha : addOk (V 0) (N x).num = true
        · rw [if_pos ha]
          unfold addOk at ha
          simp only [Bool.and_eq_true] at ha
          exact ha.2
        · rw [if_neg ha] at hok; cases hok
      case inr.inr.inr.inr.inr.inr.inr.inr.inr.inr.inr.inr.inr => exact absurd e h13
      all_goals (rw [e]; simp only [wayT, e]; first | rw [show tyR 0 = 0 from rfl] | rw [show tyR 1 = 0 from rfl] | rw [show tyR 2 = 0 from rfl] | rw [show tyR 3 = 0 from rfl] | rw [show tyR 4 = 0 from rfl] | rw [show tyR 5 = 0 from rfl] | rw [show tyR 6 = 0 from rfl] | rw [show tyR 8 = 0 from rfl] | rw [show tyR 9 = 0 from rfl] | rw [show tyR 12 = 0 from rfl])
      all_goals rw [isB_bool hz]
      · exact .inr rfl
      · have := hp.one (.inl e); show 1 - V 0 = 0 ∨ 1 - V 0 = 1; omega
      all_goals exact bI_two _
theorem step_typed {g : Sg} {W : Wd} {n : Nat} {N : Nat → Nd} (h : EvOk g W n N) {f : St} (hf : TypedS g W n N f) {x : Nat} (hx : x < n) : TypedS g W n N (stepE g W N f x) := by
  intro j hj
  unfold stepE
  by_cases e : j = x
  · subst e
    rw [if_pos rfl]
    split
    · exact hf j hj
    · split
      · rename_i hok
        refine way_typed h hj (fun i hi => ?_) hok
        have ha := h.chk.argB hj (k := i) hi
        exact hf _ (by omega)
      · exact hf j hj
  · rw [if_neg e]; exact hf j hj
theorem init_typed {g : Sg} {W : Wd} {n : Nat} {N : Nat → Nd} (h : EvOk g W n N) : TypedS g W n N (fun _ => (0, false)) := fun j hj => isB_nought h.may (sort_there h j hj).1 (sort_there h j hj).2
theorem fold_typed {g : Sg} {W : Wd} {n : Nat} {N : Nat → Nd} (h : EvOk g W n N) (l : List Nat) (hl : ∀ x ∈ l, x < n) : TypedS g W n N (foldS g W N l) := by
  have : ∀ (l : List Nat) (f : St), (∀ x ∈ l, x < n) → TypedS g W n N f → TypedS g W n N (l.foldl (stepE g W N) f) := by
    intro l
    induction l with
    | nil => intro f _ hf; exact hf
    | cons x l ih => intro f hl hf; exact ih _ (fun y hy => hl y (by simp [hy])) (step_typed h hf (hl x (by simp)))
  exact this l _ hl (init_typed h)
theorem ev_typed {g : Sg} {W : Wd} {n : Nat} {N : Nat → Nd} (h : EvOk g W n N) {k : Nat} (hk : k ≤ n) : TypedS g W n N (evF g W N k) := fold_typed h _ fun x hx => by have := List.mem_range.1 hx; omega
end Go.Proofs.YtecmoahadckomaaGreat

namespace Go.Proofs.YtecmoahadckomaaGreat
open Go.RowKit
set_option maxRecDepth 100000

theorem bits_one (x : Int) : bits BinOp.and IntKind.i64 x 1 = x % 2 := by
  have h : ((BitVec.ofInt IntKind.i64.bits x) &&& (BitVec.ofInt IntKind.i64.bits 1)).toNat = (x % 18446744073709551616).toNat % 2 := by
    rw [BitVec.toNat_and, show (BitVec.ofInt IntKind.i64.bits 1).toNat = 1 by decide, Nat.and_one_is_mod, BitVec.toNat_ofInt]
    rfl
  unfold bits
  show IntKind.i64.wrap (((BitVec.ofInt IntKind.i64.bits x) &&& (BitVec.ofInt IntKind.i64.bits 1)).toNat : Int) = x % 2
  rw [h, IntKind.wrap_i64]
  · omega
theorem RFits10_any (n : Int) (w : World) : Calls Tryz.prog 35 #[.int .i64 n] w fun e w' => e = .returned (.bool (mayB n)) ∧ w' = w := by
  have hR : Hid (mayB n = decide (-4611686018427387904 ≤ n ∧ n ≤ 4611686018427387904)) := by unfold Hid mayB; first | rfl | (rw [Bool.eq_iff_iff]; simp)
  go_enter Tryz.func35, Tryz.ntmps35
  by_cases h : -4611686018427387904 ≤ n
  · have d1 : decide (-4611686018427387904 ≤ n) = true := decide_eq_true h
    by_cases h2 : n ≤ 4611686018427387904
    · have d2 : decide (n ≤ 4611686018427387904) = true := decide_eq_true h2
      have hF : Hid (mayB n = true) := by unfold Hid; rw [hR.out]; exact decide_eq_true ⟨h, h2⟩
      clear h h2
      go_wp2
      go_ret
      exact ⟨by rw [hF.out]; rfl, rfl⟩
    · have d2 : decide (n ≤ 4611686018427387904) = false := decide_eq_false h2
      have hF : Hid (mayB n = false) := by unfold Hid; rw [hR.out]; exact decide_eq_false (fun h => h2 h.2)
      clear h h2
      go_wp2
      go_ret
      exact ⟨by rw [hF.out]; rfl, rfl⟩
  · have d1 : decide (-4611686018427387904 ≤ n) = false := decide_eq_false h
    have hF : Hid (mayB n = false) := by unfold Hid; rw [hR.out]; exact decide_eq_false (fun h2 => h h2.1)
    clear h
    go_wp2
    go_ret
    exact ⟨by rw [hF.out]; rfl, rfl⟩
set_option maxHeartbeats 1000000 in
theorem R10AtMost_any (a b n : Int) (w : World) : Calls Tryz.prog 34 #[.int .i64 a, .int .i64 b, .int .i64 n] w fun e w' => e = .returned (.bool (atMB a b n)) ∧ w' = w := by
  have hMa := Lib.hid (RFits10_any a w)
  have hMb := Lib.hid (RFits10_any b w)
  have hMn := Lib.hid (RFits10_any n w)
  have hR : Hid (atMB a b n = (mayB a && mayB b && mayB n && decide (a - b ≤ n))) := rfl
  have la := Lib.hid fun h => may_lo (x := a) h
  have lb := Lib.hid fun h => may_lo (x := b) h
  have ln := Lib.hid fun h => may_lo (x := n) h
  go_enter Tryz.func34, Tryz.ntmps34
  generalize mayB a = qa at *
  generalize mayB b = qb at *
  generalize mayB n = qn at *
  go_wp2_with fail
  refine hMa.out.mono ?_
  rintro e w1 ⟨rfl, rfl⟩
  cases qa with
  | false =>
    have hF : Hid (atMB a b n = false) := by unfold Hid; rw [hR.out]; rfl
    go_wp2_with fail
    go_ret
    exact ⟨by rw [hF.out]; rfl, rfl⟩
  | true =>
  go_wp2_with fail
  refine hMb.out.mono ?_
  rintro e w1 ⟨rfl, rfl⟩
  cases qb with
  | false =>
    have hF : Hid (atMB a b n = false) := by unfold Hid; rw [hR.out]; rfl
    go_wp2_with fail
    go_ret
    exact ⟨by rw [hF.out]; rfl, rfl⟩
  | true =>
  go_wp2_with fail
  refine hMn.out.mono ?_
  rintro e w1 ⟨rfl, rfl⟩
  cases qn with
  | false =>
    have hF : Hid (atMB a b n = false) := by unfold Hid; rw [hR.out]; rfl
    go_wp2_with fail
    go_ret
    exact ⟨by rw [hF.out]; rfl, rfl⟩
  | true =>
  have hR2 : Hid (atMB a b n = decide (a - b ≤ n)) := by unfold Hid; rw [hR.out]; simp
  obtain ⟨a0, a1⟩ := la.out trivial
  obtain ⟨b0, b1⟩ := lb.out trivial
  obtain ⟨n0, n1⟩ := ln.out rfl
  have b1' := bits_one a
  have b2' := bits_one b
  have b3' := bits_one n
  go_wp2_with fail
  all_goals go_ret
  all_goals refine ⟨ret_bool ?_, rfl⟩
  all_goals rw [hR2.out, Bool.eq_iff_iff, decide_eq_true_eq, decide_eq_true_eq]
  all_goals (try unfold wrap64)
  all_goals omega
end Go.Proofs.YtecmoahadckomaaGreat
