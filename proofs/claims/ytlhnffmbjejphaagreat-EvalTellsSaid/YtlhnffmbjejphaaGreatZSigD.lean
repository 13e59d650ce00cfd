/- sig.Check: the map of the two names that are there always, made in whatever order. -/
import Derived.Test.YtlhnffmbjejphaaGreatZSigBSigC
import Derived.BigRegion
import Derived.Deep.CutRange
namespace Go.Proofs.YtlhnffmbjejphaaGreat
open Go.RowKit Go.Maps
open Go.ChangeMaps (setBlock)
set_option maxRecDepth 100000

theorem set_push_top {α : Type} (l : Array α) (o o' : α) : (l.push o).setIfInBounds l.size o' = l.push o' := by
  apply Array.ext_getElem?
  intro i
  rw [Array.getElem?_setIfInBounds, Array.getElem?_push, Array.getElem?_push]
  by_cases e : l.size = i
  · subst e; simp
  · rw [if_neg e, if_neg (fun h => e h.symm), if_neg (fun h => e h.symm)]
theorem set_push_low {α : Type} (l : Array α) (o o' : α) (b : Nat) (hb : b < l.size) : (l.push o).setIfInBounds b o' = (l.setIfInBounds b o').push o := by
  apply Array.ext_getElem?
  intro i
  have hs : (l.setIfInBounds b o').size = l.size := by simp
  have hs2 : (l.push o).size = l.size + 1 := by simp
  rw [Array.getElem?_setIfInBounds, Array.getElem?_push, Array.getElem?_push, Array.getElem?_setIfInBounds, hs, hs2]
  by_cases e : b = i
  · subst e
    rw [if_pos rfl, if_pos (by omega), if_neg (by omega), if_pos rfl, if_pos hb]
  · rw [if_neg e, if_neg e]
theorem setBlock_top (y : World) (o o' : Obj) : setBlock (y.alloc o).drew y.heap.size o' = (y.alloc o').drew := by
  show ({ (y.alloc o).drew with heap := (y.heap.push o).setIfInBounds y.heap.size o' } : World) = _
  rw [set_push_top]; rfl
theorem setBlock_low (y : World) (o o' p : Obj) : setBlock ((y.alloc o).alloc p).drew y.heap.size o' = ((y.alloc o').alloc p).drew := by
  show ({ ((y.alloc o).alloc p).drew with heap := ((y.heap.push o).push p).setIfInBounds y.heap.size o' } : World) = _
  rw [set_push_low _ _ _ _ (by simp), set_push_top]; rfl
theorem ins_top (y : World) (b : Nat) (hb : b = y.heap.size) (es : Array MapEntry) (clk : Nat) (i : ByteArray × Bool) (hi : okN i) (hes : ∀ e ∈ es.toList, ∃ j, okN j ∧ j ≠ i ∧ e.key = nameV j) :
    (Instr.mapUpdate 135 (.map (some b)) (nameV i) (.bool true)).run Tryz.prog (y.alloc (.map es clk)).drew = .ok () (y.alloc (.map (es.push ⟨nameV i, .bool true, clk⟩) (clk + 1))).drew := by
  subst hb
  rw [ins_run nameK (w := (y.alloc (.map es clk)).drew) (es := es) (clock := clk) (by show (y.heap.push _)[y.heap.size]? = _; simp) hi hes, setBlock_top]
theorem ins_low (y : World) (p : Obj) (b : Nat) (hb : b = y.heap.size) (es : Array MapEntry) (clk : Nat) (i : ByteArray × Bool) (hi : okN i) (hes : ∀ e ∈ es.toList, ∃ j, okN j ∧ j ≠ i ∧ e.key = nameV j) :
    (Instr.mapUpdate 135 (.map (some b)) (nameV i) (.bool true)).run Tryz.prog ((y.alloc (.map es clk)).alloc p).drew = .ok () ((y.alloc (.map (es.push ⟨nameV i, .bool true, clk⟩) (clk + 1))).alloc p).drew := by
  subst hb
  rw [ins_run nameK (w := ((y.alloc (.map es clk)).alloc p).drew) (es := es) (clock := clk) (by show ((y.heap.push _).push _)[y.heap.size]? = _; rw [Array.getElem?_push_lt (by simp)]; simp) hi hes, setBlock_low]
/-- The map with both names reads so, in whatever order they came. -/
theorem two_names (y : World) (i j : ByteArray × Bool) (hi : okN i) (hj : okN j) (hij : i ≠ j) (S : ByteArray × Bool → Bool) (hS : ∀ k, S k = (decide (k = j) || (decide (k = i) || false))) :
    NamesAt (y.alloc (.map #[⟨nameV i, .bool true, 0⟩, ⟨nameV j, .bool true, 1⟩] 2)) y.heap.size 2 S := by
  have h0 : NamesAt (y.alloc (.map #[] 0)) y.heap.size 0 (fun _ => false) := SetAt.made y
  obtain ⟨w1, r1, s1, _⟩ := h0.store nameK (by unfold maxLen; omega) hi (S' := fun k => decide (k = i) || false) (by simp) (fun k hk => by rw [decide_eq_false hk]; rfl)
  have e1 := ins_run nameK (w := y.alloc (.map #[] 0)) (b := y.heap.size) (es := #[]) (clock := 0) (by show (y.heap.push _)[y.heap.size]? = _; simp) hi (fun e he => by simp at he)
  rw [e1] at r1
  injection r1 with _ r1
  have e2 : setBlock (y.alloc (.map #[] 0)) y.heap.size (.map (#[].push ⟨nameV i, .bool true, 0⟩) (0 + 1)) = y.alloc (.map #[⟨nameV i, .bool true, 0⟩] 1) := by
    show ({ (y.alloc (.map #[] 0)) with heap := (y.heap.push _).setIfInBounds y.heap.size _ } : World) = _
    rw [set_push_top]; rfl
  rw [e2] at r1
  subst r1
  obtain ⟨w2, r2, s2, _⟩ := s1.store nameK (by unfold maxLen; omega) hj (S' := S) (by rw [hS]; simp) (fun k hk => by rw [hS, decide_eq_false hk]; rfl)
  have e3 := ins_run nameK (w := y.alloc (.map #[⟨nameV i, .bool true, 0⟩] 1)) (b := y.heap.size) (es := #[⟨nameV i, .bool true, 0⟩]) (clock := 1) (by show (y.heap.push _)[y.heap.size]? = _; simp) hj (fun e he => by
    simp at he; subst he; exact ⟨i, hi, hij, rfl⟩)
  rw [e3] at r2
  injection r2 with _ r2
  have e4 : setBlock (y.alloc (.map #[⟨nameV i, .bool true, 0⟩] 1)) y.heap.size (.map (#[⟨nameV i, .bool true, 0⟩].push ⟨nameV j, .bool true, 1⟩) (1 + 1)) = y.alloc (.map #[⟨nameV i, .bool true, 0⟩, ⟨nameV j, .bool true, 1⟩] 2) := by
    show ({ (y.alloc _) with heap := (y.heap.push _).setIfInBounds y.heap.size _ } : World) = _
    rw [set_push_top]; rfl
  rw [e4] at r2
  subst r2
  exact s2
def nB : ByteArray × Bool := (boolS, true)
def nI : ByteArray × Bool := (intS, true)
theorem nB_ne : nB ≠ nI := by unfold nB nI boolS intS; decide
theorem bltn_1 (k : ByteArray × Bool) : bltn k = (decide (k = nI) || (decide (k = nB) || false)) := by
  obtain ⟨s, b⟩ := k
  have h (t : ByteArray) : decide ((s, b) = (t, true)) = (b && eqS t s) := by
    rw [Bool.eq_iff_iff, decide_eq_true_iff, Bool.and_eq_true, eqS_iff]
    constructor
    · intro h; injection h with h1 h2; exact ⟨h2, h1.symm⟩
    · rintro ⟨rfl, rfl⟩; rfl
  unfold bltn nI nB
  rw [h, h]
  cases b <;> cases eqS boolS s <;> cases eqS intS s <;> rfl
theorem bltn_2 (k : ByteArray × Bool) : bltn k = (decide (k = nB) || (decide (k = nI) || false)) := by
  rw [bltn_1]
  cases decide (k = nI) <;> cases decide (k = nB) <;> rfl
def kB : Value := .agg #[.string ⟨#[66, 111, 111, 108]⟩, .bool true]
def kI : Value := .agg #[.string ⟨#[73, 110, 116]⟩, .bool true]
def iB (c : Nat) : MapEntry := ⟨.agg #[.string ⟨#[66, 111, 111, 108]⟩, .bool true], .bool true, c⟩
def iI (c : Nat) : MapEntry := ⟨.agg #[.string ⟨#[73, 110, 116]⟩, .bool true], .bool true, c⟩
/-- What an insert does to the map on top, and to the map with a block behind it. -/
def InsT (y : World) (b : Nat) : Prop :=
  (Instr.mapUpdate 135 (.map (some b)) (.agg #[.string ⟨#[66, 111, 111, 108]⟩, .bool true]) (.bool true)).run Tryz.prog (y.alloc (.map #[] 0)).drew = .ok () (y.alloc (.map #[iB 0] 1)).drew ∧
  (Instr.mapUpdate 135 (.map (some b)) (.agg #[.string ⟨#[73, 110, 116]⟩, .bool true]) (.bool true)).run Tryz.prog (y.alloc (.map #[] 0)).drew = .ok () (y.alloc (.map #[iI 0] 1)).drew ∧
  (Instr.mapUpdate 135 (.map (some b)) (.agg #[.string ⟨#[73, 110, 116]⟩, .bool true]) (.bool true)).run Tryz.prog (y.alloc (.map #[iB 0] 1)).drew = .ok () (y.alloc (.map #[iB 0, iI 1] 2)).drew ∧
  (Instr.mapUpdate 135 (.map (some b)) (.agg #[.string ⟨#[66, 111, 111, 108]⟩, .bool true]) (.bool true)).run Tryz.prog (y.alloc (.map #[iI 0] 1)).drew = .ok () (y.alloc (.map #[iI 0, iB 1] 2)).drew
def InsL (y : World) (p : Obj) (b : Nat) : Prop :=
  (Instr.mapUpdate 135 (.map (some b)) (.agg #[.string ⟨#[66, 111, 111, 108]⟩, .bool true]) (.bool true)).run Tryz.prog ((y.alloc (.map #[] 0)).alloc p).drew = .ok () ((y.alloc (.map #[iB 0] 1)).alloc p).drew ∧
  (Instr.mapUpdate 135 (.map (some b)) (.agg #[.string ⟨#[73, 110, 116]⟩, .bool true]) (.bool true)).run Tryz.prog ((y.alloc (.map #[] 0)).alloc p).drew = .ok () ((y.alloc (.map #[iI 0] 1)).alloc p).drew ∧
  (Instr.mapUpdate 135 (.map (some b)) (.agg #[.string ⟨#[73, 110, 116]⟩, .bool true]) (.bool true)).run Tryz.prog ((y.alloc (.map #[iB 0] 1)).alloc p).drew = .ok () ((y.alloc (.map #[iB 0, iI 1] 2)).alloc p).drew ∧
  (Instr.mapUpdate 135 (.map (some b)) (.agg #[.string ⟨#[66, 111, 111, 108]⟩, .bool true]) (.bool true)).run Tryz.prog ((y.alloc (.map #[iI 0] 1)).alloc p).drew = .ok () ((y.alloc (.map #[iI 0, iB 1] 2)).alloc p).drew
theorem ne_BI {e : MapEntry} (h : e ∈ (#[iB 0] : Array MapEntry).toList) : ∃ j, okN j ∧ j ≠ nI ∧ e.key = nameV j := by simp at h; subst h; exact ⟨nB, boolS_R, nB_ne, rfl⟩
theorem ne_IB {e : MapEntry} (h : e ∈ (#[iI 0] : Array MapEntry).toList) : ∃ j, okN j ∧ j ≠ nB ∧ e.key = nameV j := by simp at h; subst h; exact ⟨nI, intS_R, fun e => nB_ne e.symm, rfl⟩
theorem insT (y : World) (b : Nat) (hb : b = y.heap.size) : InsT y b :=
  ⟨ins_top y b hb #[] 0 nB boolS_R (fun e he => by simp at he), ins_top y b hb #[] 0 nI intS_R (fun e he => by simp at he), ins_top y b hb #[iB 0] 1 nI intS_R (fun _ h => ne_BI h), ins_top y b hb #[iI 0] 1 nB boolS_R (fun _ h => ne_IB h)⟩
theorem insL (y : World) (p : Obj) (b : Nat) (hb : b = y.heap.size) : InsL y p b :=
  ⟨ins_low y p b hb #[] 0 nB boolS_R (fun e he => by simp at he), ins_low y p b hb #[] 0 nI intS_R (fun e he => by simp at he), ins_low y p b hb #[iB 0] 1 nI intS_R (fun _ h => ne_BI h), ins_low y p b hb #[iI 0] 1 nB boolS_R (fun _ h => ne_IB h)⟩
theorem named_BI (y : World) : NamesAt (y.alloc (.map #[iB 0, iI 1] 2)) y.heap.size 2 bltn := two_names y nB nI boolS_R intS_R nB_ne bltn bltn_1
theorem named_IB (y : World) : NamesAt (y.alloc (.map #[iI 0, iB 1] 2)) y.heap.size 2 bltn := two_names y nI nB intS_R boolS_R (fun e => nB_ne e.symm) bltn bltn_2
def ckK (w : World) (sv fv mv : Value) (sb mb : Nat) : List (Nat × Nat × Value) := [(sb, 0, .map (some mb)), (w.heap.size, 0, sv), (w.heap.size, 1, fv), (w.heap.size, 2, mv)]
def CkI (w : World) (sv fv mv : Value) (sb mb n : Nat) (S : ByteArray × Bool → Bool) (x : World) : Prop := NamesAt x mb n S ∧ Bx w (ckK w sv fv mv sb mb) x ∧ w.heap.size < mb ∧ sb ≠ mb
theorem ck_low {w : World} {sv fv mv : Value} {E : Array MapEntry} (h : ∀ y : World, NamesAt (y.alloc (.map E 2)) y.heap.size 2 bltn) (W : World) (hW : W = w.alloc (.cells #[sv, fv, mv] 26)) :
    CkI w sv fv mv (W.heap.size + 1) W.heap.size 2 bltn ((W.alloc (.map E 2)).alloc (.cells #[.map (some W.heap.size)] 135)).drew := by
  have hx := ((((Bx.nil w).row #[sv, fv, mv] 26).skip (.map E 2)).row #[.map (some W.heap.size)] 135).drew
  rw [← hW] at hx
  refine ⟨(h W).alloc _, hx.cast ?_, by rw [hW]; simp, by omega⟩
  simp [rowK, ckK]
theorem ck_top {w : World} {sv fv mv : Value} {E : Array MapEntry} (h : ∀ y : World, NamesAt (y.alloc (.map E 2)) y.heap.size 2 bltn) (W : World) (hW : W = w.alloc (.cells #[sv, fv, mv] 26)) :
    CkI w sv fv mv W.heap.size (W.heap.size + 1) 2 bltn ((W.alloc (.cells #[.map (some (W.heap.size + 1))] 135)).alloc (.map E 2)).drew := by
  have hx := ((((Bx.nil w).row #[sv, fv, mv] 26).row #[.map (some (W.heap.size + 1))] 135).skip (.map E 2)).drew
  rw [← hW] at hx
  have := h (W.alloc (.cells #[.map (some (W.heap.size + 1))] 135))
  rw [World.size_alloc] at this
  refine ⟨this, hx.cast ?_, by rw [hW]; simp; omega, by omega⟩
  simp [rowK, ckK]
theorem CkI.step {w x y : World} {sv fv mv : Value} {sb mb n : Nat} {S : ByteArray × Bool → Bool} (h : CkI w sv fv mv sb mb n S x) (hb : Below x.heap.size x y) : CkI w sv fv mv sb mb n S y :=
  ⟨h.1.below hb h.1.lt, h.2.1.step hb, h.2.2⟩
theorem CkI.keep {w x y : World} {sv fv mv : Value} {sb mb n : Nat} {S S' : ByteArray × Bool → Bool} (h : CkI w sv fv mv sb mb n S x) (hN : NamesAt y mb (n + 1) S') (hk : KeepsB mb x y) : CkI w sv fv mv sb mb (n + 1) S' y := by
  obtain ⟨_, hx, h1, h2⟩ := h
  refine ⟨hN, hk w _ hx (Nat.le_of_lt h1) ?_, h1, h2⟩
  intro a ha
  simp [ckK] at ha
  rcases ha with rfl | rfl | rfl | rfl
  · exact h2
  · show w.heap.size ≠ mb; omega
  · show w.heap.size ≠ mb; omega
  · show w.heap.size ≠ mb; omega
theorem CkI.cells {w x : World} {sv fv mv : Value} {sb mb n : Nat} {S : ByteArray × Bool → Bool} (h : CkI w sv fv mv sb mb n S x) :
    (x.cell? ⟨sb, 0, none⟩ = some (.map (some mb)) ∧ sb < x.heap.size) ∧ x.cell? ⟨w.heap.size, 0, none⟩ = some sv ∧ x.cell? ⟨w.heap.size, 1, none⟩ = some fv ∧ x.cell? ⟨w.heap.size, 2, none⟩ = some mv :=
  ⟨h.2.1.cells.1, h.2.1.cells.2.1.1, h.2.1.cells.2.2.1.1, h.2.1.cells.2.2.2.1.1⟩
/-- A row laid in x is in y, and the rest. -/
theorem CkI.row {w x y : World} {sv fv mv : Value} {sb mb n : Nat} {S : ByteArray × Bool → Bool} (h : CkI w sv fv mv sb mb n S x) (vs : Array Value) (t : TypeId) (hk : KeepsB mb (x.alloc (.cells vs t)) y) : cellsK (rowK x.heap.size vs.toList 0) y := by
  have hlt := h.1.lt
  have hx := hk w _ (((Bx.nil w).step (y := x) ⟨h.2.1.bel.os, h.2.1.bel.tape, h.2.1.bel.output, h.2.1.bel.size, h.2.1.bel.block⟩).row vs t) (Nat.le_of_lt h.2.2.1) (by
    intro a ha
    rw [List.append_nil] at ha
    have : ∀ (l : List Value) (i : Nat), a ∈ rowK x.heap.size l i → a.1 = x.heap.size := by
      intro l
      induction l with
      | nil => intro i h; simp [rowK] at h
      | cons v l ih =>
        intro i h
        simp only [rowK, List.mem_cons] at h
        rcases h with rfl | h
        · rfl
        · exact ih _ h
    rw [this _ _ ha]; omega)
  have := hx.cells
  rwa [List.append_nil] at this

set_option maxHeartbeats 8000000 in
theorem SCheck_any (sv fv mv : Value) (g : Sg) (w : World) (hG : SgAt w sv fv mv g) (hf : FewG g) :
    Calls Tryz.prog 44 #[.agg #[sv, fv, mv]] w fun e w' => e = .returned (.int .i64 (chV (checkG g))) ∧ Below w.heap.size w w' := by
  have hmm := @run_makeMap Tryz.prog
  have hmf : ∀ (fn : Go.Fn) (first cap : Array Value) (w : World), (Instr.makeFunc fn first cap).run Tryz.prog w = .ok (.func fn first cap) w := fun _ _ _ _ => rfl
  obtain ⟨hS, hF, hM⟩ := hG
  obtain ⟨nsl, nfl, nml⟩ := hf
  have hS' := Lib.hid hS
  have hF' := Lib.hid hF
  have hM' := Lib.hid hM
  obtain ⟨A, c, rfl, ⟨hn, hc⟩, _⟩ := hS
  obtain ⟨FA, fc, rfl, ⟨hfn, hfc⟩, _⟩ := hF
  obtain ⟨MA, mc, rfl, ⟨hmn, hmc⟩, _⟩ := hM
  obtain ⟨W, hW⟩ : ∃ W, W = w.alloc (.cells #[.slice A g.ns c, .slice FA g.nf fc, .slice MA g.nm mc] 26) := ⟨_, rfl⟩
  obtain ⟨a1, a2, a3, a4⟩ := insT W W.heap.size rfl
  obtain ⟨b1, b2, b3, b4⟩ := insT (W.alloc (.cells #[.map none] 135)) (W.heap.size + 1) (by simp)
  obtain ⟨c1, c2, c3, c4⟩ := insL W (.cells #[.map none] 135) W.heap.size rfl
  have hW' := Lib.hid hW
  clear hW
  go_enter Tryz.func44, Tryz.ntmps44
  go_upto_region 1 with fail
  rw [← hW'.out]
  go_cut [3] from 12 to 15 (fun u y => ∃ sb mb, u = .pointer (some ⟨sb, 0, none⟩) ∧ Hid (CkI w (.slice A g.ns c) (.slice FA g.nf fc) (.slice MA g.nm mc) sb mb 2 bltn y))
  case first =>
    go_region
    all_goals go_wp2_with fail
    all_goals go_meet
    all_goals first | exact ⟨_, _, rfl, ck_low named_BI _ hW'.out⟩ | exact ⟨_, _, rfl, ck_low named_IB _ hW'.out⟩ | exact ⟨_, _, rfl, ck_top named_BI _ hW'.out⟩ | exact ⟨_, _, rfl, ck_top named_IB _ hW'.out⟩
  case rest =>
    clear a1 a2 a3 a4 b1 b2 b3 b4 c1 c2 c3 c4 hmm
    obtain ⟨sb, mb, rfl, hC⟩ := hcut
    obtain ⟨⟨k0, kz⟩, k1, k2, k3⟩ := hC.out.cells
    have hfew : Hid (fewG g = (decide (g.ns ≤ 4) && decide (g.nf ≤ 12) && decide (g.nm ≤ 12))) := rfl
    go_upto_region 3 with fail
    go_cut [5] from 17 to 32 (fun u y => u = .bool (fewG g) ∧ y = wc)
    case first =>
      by_cases h1 : g.ns ≤ 4
      · have e1 : decide ((g.ns : Int) ≤ 4) = true := decide_eq_true (by omega)
        by_cases h2 : g.nf ≤ 12
        · have e2 : decide ((g.nf : Int) ≤ 12) = true := decide_eq_true (by omega)
          by_cases h3 : g.nm ≤ 12
          · have e3 : decide ((g.nm : Int) ≤ 12) = true := decide_eq_true (by omega)
            have hq : Hid (fewG g = true) := by unfold Hid; rw [hfew.out, decide_eq_true h1, decide_eq_true h2, decide_eq_true h3]; rfl
            clear h1 h2 h3
            go_wp2_with fail
            go_meet
            exact ⟨by rw [hq.out], rfl⟩
          · have e3 : decide ((g.nm : Int) ≤ 12) = false := decide_eq_false (by omega)
            have hq : Hid (fewG g = false) := by unfold Hid; rw [hfew.out, decide_eq_false h3, Bool.and_false]
            clear h1 h2 h3
            go_wp2_with fail
            go_meet
            exact ⟨by rw [hq.out], rfl⟩
        · have e2 : decide ((g.nf : Int) ≤ 12) = false := decide_eq_false (by omega)
          have hq : Hid (fewG g = false) := by unfold Hid; rw [hfew.out, decide_eq_false h2, Bool.and_false, Bool.false_and]
          clear h1 h2
          go_wp2_with fail
          go_meet
          exact ⟨by rw [hq.out], rfl⟩
      · have e1 : decide ((g.ns : Int) ≤ 4) = false := decide_eq_false (by omega)
        have hq : Hid (fewG g = false) := by unfold Hid; rw [hfew.out, decide_eq_false h1, Bool.false_and, Bool.false_and]
        clear h1
        go_wp2_with fail
        go_meet
        exact ⟨by rw [hq.out], rfl⟩
    case rest =>
      obtain ⟨rfl, rfl⟩ := hcut
      clear k0 kz hfew hW'
      generalize hbb : fewG g = bb at *
      have hchk : Hid (checkG g = (bb && upTo g.ns (okSn g) && upTo g.nf (okFn g) && upTo g.nm (okMn g))) := by unfold Hid checkG; rw [hbb]
      clear hbb
      go_wp2_with fail
      go_loopw [5, 7, 36] (fun ok _ i wr => ∃ j : Nat, j ≤ g.ns ∧ i = .int .i64 j ∧ ok = .bool (bb && upTo j (okSn g)) ∧ Hid (CkI w (.slice A g.ns c) (.slice FA g.nf fc) (.slice MA g.nm mc) sb mb (2 + j) (SSn g j) wr)) (fun _ _ i _ => g.ns - (intOf i).toNat)
      case atStart => exact ⟨0, Nat.zero_le _, rfl, by simp [upTo], hC.out⟩
      case round =>
        clear k1 k2 k3
        obtain ⟨j, hj, rfl, rfl, hI⟩ := hrel
        obtain ⟨⟨k0, kz⟩, k1, k2, k3⟩ := hI.out.cells
        by_cases hlt : j < g.ns
        · have i1 : decide ((j : Int) < (g.ns : Int)) = true := decide_eq_true (by omega)
          obtain ⟨_, _, e, _, hcs⟩ := hS'.out.below hI.out.2.1.bel
          injection e with e1 _ e3
          subst e1; subst e3
          obtain ⟨b, o, rfl, hbl, hcs⟩ := hcs (by omega)
          obtain ⟨cj, hsj⟩ := hcs j hlt
          rw [Nat.mul_one] at cj
          clear hcs
          have hfr := fresh_of (SSn g j) (g.S j) true mb sb (2 + j) wr hsj hI.out.1 (by unfold maxLen; omega) k0 kz
          unfold FreshP at hfr
          have hup : Hid (upTo (j + 1) (okSn g) = (upTo j (okSn g) && frB (SSn g j) (g.S j) true)) := by unfold Hid; rw [upTo]; rfl
          generalize upTo j (okSn g) = ub at *
          cases hfb : frB (SSn g j) (g.S j) true with
          | true =>
            rw [hfb] at hfr hup
            have hfr' := Lib.hid hfr
            clear hfr hfb
            go_wp2_with (go_at_call 97; (with_reducible refine hfr'.out.mono ?_); rintro e w2 ⟨rfl, hN2, hk2⟩)
            go_roundw
            case rel => exact ⟨j + 1, by omega, by go_num, by rw [hup.out, Bool.and_true], hI.out.keep hN2 hk2⟩
            case measure => simp [intOf]; omega
          | false =>
            rw [hfb] at hfr hup
            have hfr' := Lib.hid hfr
            clear hfr hfb
            go_wp2_with (go_at_call 97; (with_reducible refine hfr'.out.mono ?_); rintro e w2 ⟨rfl, hN2, hk2⟩)
            go_roundw
            case rel => exact ⟨j + 1, by omega, by go_num, by rw [hup.out, Bool.and_false, Bool.and_false], hI.out.keep hN2 hk2⟩
            case measure => simp [intOf]; omega
        · have i1 : decide ((j : Int) < (g.ns : Int)) = false := decide_eq_false (by omega)
          have hjn : Hid (j = g.ns) := by unfold Hid; omega
          have hchk2 : Hid (checkG g = (bb && upTo j (okSn g) && upTo g.nf (okFn g) && upTo g.nm (okMn g))) := by unfold Hid; rw [hchk.out, hjn.out]
          have hI2 : Hid (CkI w (.slice A g.ns c) (.slice FA g.nf fc) (.slice MA g.nm mc) sb mb (2 + g.ns) (SFn g 0) wr) := by
            have := hI.out
            rw [hjn.out] at this
            exact this
          clear hchk hI hC hjn
          generalize (bb && upTo j (okSn g)) = b2 at *
          have hth0 := fun f w => fun_any A g.ns c (.slice FA g.nf fc) (.slice MA g.nm mc) f w (by omega)
          unfold fnV at hth0
          have hth := Lib.hid hth0
          clear hth0
          go_wp2_with fail
          go_loopw [5, 9, 50] (fun ok _ i wr => ∃ j : Nat, j ≤ g.nf ∧ i = .int .i64 j ∧ ok = .bool (b2 && upTo j (okFn g)) ∧ Hid (CkI w (.slice A g.ns c) (.slice FA g.nf fc) (.slice MA g.nm mc) sb mb (2 + g.ns + j) (SFn g j) wr)) (fun _ _ i _ => g.nf - (intOf i).toNat)
          case atStart => exact ⟨0, Nat.zero_le _, rfl, by simp [upTo], hI2.out⟩
          case round =>
            clear k0 kz k1 k2 k3 hI2 i1 hlt hj
            obtain ⟨j, hj, rfl, rfl, hI⟩ := hrel
            obtain ⟨_, k1, k2, k3⟩ := hI.out.cells
            by_cases hlt : j < g.nf
            · have i1 : decide ((j : Int) < (g.nf : Int)) = true := decide_eq_true (by omega)
              obtain ⟨_, _, e, _, hcs⟩ := hF'.out.below hI.out.2.1.bel
              injection e with e1 _ e3
              subst e1; subst e3
              obtain ⟨b, o, rfl, hbl, hcs⟩ := hcs (by omega)
              obtain ⟨⟨p0, p1, p2, p3, p4, p5⟩, hpr⟩ := hcs j hlt
              clear hcs
              have hI1 := Lib.hid (hI.out.step ((Below.refl wr.heap.size wr).alloc (Nat.le_refl _) (.cells #[.string (g.F j).name, .int .i64 (g.F j).len, .int .i64 (g.F j).a0, .int .i64 (g.F j).a1, .int .i64 (g.F j).a2, .int .i64 (g.F j).res] 66)))
              obtain ⟨⟨q0, qz⟩, _, _, _⟩ := hI1.out.cells
              have hfr := fresh_of (SFn g j) (g.F j).name false mb sb (2 + g.ns + j) _ hpr.name hI1.out.1 (by unfold maxLen; omega) q0 qz
              unfold FreshP at hfr
              clear q0 qz
              have hup : Hid (upTo (j + 1) (okFn g) = (upTo j (okFn g) && (frB (SFn g j) (g.F j).name false && funB g.ns (g.F j)))) := by unfold Hid; rw [upTo]; rfl
              generalize upTo j (okFn g) = ub at *
              cases hfb : frB (SFn g j) (g.F j).name false with
              | true =>
                rw [hfb] at hfr hup
                have hfr' := Lib.hid hfr
                clear hfr hfb
                cases hfu : funB g.ns (g.F j) with
                | true =>
                  have hth2 := Lib.hid fun w => hth.out (g.F j) w
                  rw [hfu] at hup hth2
                  clear hfu
                  go_wp2_with (first | (go_at_call 97; (with_reducible refine hfr'.out.mono ?_); rintro e w2 ⟨rfl, hN2, hk2⟩; have hI3 := Lib.hid (hI1.out.keep hN2 hk2); obtain ⟨_, s1, s2, s3⟩ := hI3.out.cells; obtain ⟨⟨r0, _⟩, ⟨r1, _⟩, ⟨r2, _⟩, ⟨r3, _⟩, ⟨r4, _⟩, ⟨r5, _⟩, _⟩ := hI.out.row #[.string (g.F j).name, .int .i64 (g.F j).len, .int .i64 (g.F j).a0, .int .i64 (g.F j).a1, .int .i64 (g.F j).a2, .int .i64 (g.F j).res] 66 hk2; clear hk2 hN2) | (go_at_call 100; (with_reducible refine (hth2.out _).mono ?_); rintro e w3 ⟨rfl, hb3⟩; have hI4 := Lib.hid (hI3.out.step hb3); clear hb3))
                  go_roundw
                  case rel => exact ⟨j + 1, by omega, by go_num, by rw [hup.out, Bool.and_true, Bool.and_true], hI4.out⟩
                  case measure => simp [intOf]; omega
                | false =>
                  have hth2 := Lib.hid fun w => hth.out (g.F j) w
                  rw [hfu] at hup hth2
                  clear hfu
                  go_wp2_with (first | (go_at_call 97; (with_reducible refine hfr'.out.mono ?_); rintro e w2 ⟨rfl, hN2, hk2⟩; have hI3 := Lib.hid (hI1.out.keep hN2 hk2); obtain ⟨_, s1, s2, s3⟩ := hI3.out.cells; obtain ⟨⟨r0, _⟩, ⟨r1, _⟩, ⟨r2, _⟩, ⟨r3, _⟩, ⟨r4, _⟩, ⟨r5, _⟩, _⟩ := hI.out.row #[.string (g.F j).name, .int .i64 (g.F j).len, .int .i64 (g.F j).a0, .int .i64 (g.F j).a1, .int .i64 (g.F j).a2, .int .i64 (g.F j).res] 66 hk2; clear hk2 hN2) | (go_at_call 100; (with_reducible refine (hth2.out _).mono ?_); rintro e w3 ⟨rfl, hb3⟩; have hI4 := Lib.hid (hI3.out.step hb3); clear hb3))
                  go_roundw
                  case rel => exact ⟨j + 1, by omega, by go_num, by rw [hup.out, Bool.and_false, Bool.and_false, Bool.and_false], hI4.out⟩
                  case measure => simp [intOf]; omega
              | false =>
                rw [hfb] at hfr hup
                have hfr' := Lib.hid hfr
                clear hfr hfb
                go_wp2_with (go_at_call 97; (with_reducible refine hfr'.out.mono ?_); rintro e w2 ⟨rfl, hN2, hk2⟩; have hI3 := Lib.hid (hI1.out.keep hN2 hk2); clear hk2 hN2)
                go_roundw
                case rel => exact ⟨j + 1, by omega, by go_num, by rw [hup.out, Bool.false_and, Bool.and_false, Bool.and_false], hI3.out⟩
                case measure => simp [intOf]; omega
            · have i1 : decide ((j : Int) < (g.nf : Int)) = false := decide_eq_false (by omega)
              have hjn : Hid (j = g.nf) := by unfold Hid; omega
              have hchk3 : Hid (checkG g = (b2 && upTo j (okFn g) && upTo g.nm (okMn g))) := by unfold Hid; rw [hchk2.out, hjn.out]
              have hI2 : Hid (CkI w (.slice A g.ns c) (.slice FA g.nf fc) (.slice MA g.nm mc) sb mb (2 + g.ns + g.nf) (SMn g 0) wr) := by
                have := hI.out
                rw [hjn.out] at this
                exact this
              clear hchk2 hI hjn hth
              generalize (b2 && upTo j (okFn g)) = b3 at *
              have hmac := Lib.hid fun m v0 v1 v2 v3 v4 v5 w h => macro_any A g.ns c (.slice FA g.nf fc) (.slice MA g.nm mc) m v0 v1 v2 v3 v4 v5 w (by omega) h
              go_wp2_with fail
              go_loopw [5, 11, 70] (fun ok _ i wr => ∃ j : Nat, j ≤ g.nm ∧ i = .int .i64 j ∧ ok = .bool (b3 && upTo j (okMn g)) ∧ Hid (CkI w (.slice A g.ns c) (.slice FA g.nf fc) (.slice MA g.nm mc) sb mb (2 + g.ns + g.nf + j) (SMn g j) wr)) (fun _ _ i _ => g.nm - (intOf i).toNat)
              case atStart => exact ⟨0, Nat.zero_le _, rfl, by simp [upTo], hI2.out⟩
              case round =>
                clear k1 k2 k3 hI2 i1 hlt hj
                obtain ⟨j, hj, rfl, rfl, hI⟩ := hrel
                obtain ⟨_, k1, k2, k3⟩ := hI.out.cells
                by_cases hlt : j < g.nm
                · have i1 : decide ((j : Int) < (g.nm : Int)) = true := decide_eq_true (by omega)
                  obtain ⟨_, _, e, _, hcs⟩ := hM'.out
                  injection e with e1 _ e3
                  subst e1; subst e3
                  obtain ⟨b, o, rfl, hbl, hcs⟩ := hcs (by omega)
                  obtain ⟨v0, v1, v2, v3, v4, v5, ⟨p0, p1, p2, p3, p4, p5⟩, hm⟩ := hcs j hlt
                  clear hcs
                  have hm0 := hm
                  obtain ⟨rfl, hnm, hpm, rfl, -, hbd⟩ := hm0
                  obtain ⟨PA, pc, rfl, -, -⟩ := hpm
                  obtain ⟨kk, tt, AA, nn, cc, rfl, rfl, rfl⟩ := hbd.forms
                  clear hbd
                  have hbel := hI.out.2.1.bel
                  replace p0 := (hbel.cell (p := ⟨b, o + j * 6, none⟩) hbl).trans p0
                  replace p1 := (hbel.cell (p := ⟨b, o + j * 6 + 1, none⟩) hbl).trans p1
                  replace p2 := (hbel.cell (p := ⟨b, o + j * 6 + 2, none⟩) hbl).trans p2
                  replace p3 := (hbel.cell (p := ⟨b, o + j * 6 + 3, none⟩) hbl).trans p3
                  replace p4 := (hbel.cell (p := ⟨b, o + j * 6 + 4, none⟩) hbl).trans p4
                  replace p5 := (hbel.cell (p := ⟨b, o + j * 6 + 5, none⟩) hbl).trans p5
                  clear hbel
                  have hI1 := Lib.hid (hI.out.step ((Below.refl wr.heap.size wr).alloc (Nat.le_refl _) (.cells #[.string (g.M j).name, .slice PA (g.M j).np pc, .int .i64 (g.M j).res, .int .i8 kk, .string tt, .slice AA nn cc] 61)))
                  obtain ⟨⟨q0, qz⟩, _, _, _⟩ := hI1.out.cells
                  have hfr := fresh_of (SMn g j) (g.M j).name false mb sb (2 + g.ns + g.nf + j) _ hnm hI1.out.1 (by unfold maxLen; omega) q0 qz
                  unfold FreshP at hfr
                  clear q0 qz hnm
                  have hup : Hid (upTo (j + 1) (okMn g) = (upTo j (okMn g) && (frB (SMn g j) (g.M j).name false && macB g.ns (g.M j)))) := by unfold Hid; rw [upTo]; rfl
                  generalize upTo j (okMn g) = ub at *
                  cases hfb : frB (SMn g j) (g.M j).name false with
                  | true =>
                    rw [hfb] at hfr hup
                    have hfr' := Lib.hid hfr
                    clear hfr hfb
                    cases hfu : macB g.ns (g.M j) with
                    | true =>
                      have hcal := Lib.hid fun y (hy : Below w.heap.size w y) => hmac.out (g.M j) _ _ _ _ _ _ y (hm.below hy)
                      rw [hfu] at hup hcal
                      have hm' := Lib.hid hm
                      clear hfu hm
                      go_wp2_with (first | (go_at_call 97; (with_reducible refine hfr'.out.mono ?_); rintro e w2 ⟨rfl, hN2, hk2⟩; have hI3 := Lib.hid (hI1.out.keep hN2 hk2); obtain ⟨_, s1, s2, s3⟩ := hI3.out.cells; obtain ⟨⟨r0, _⟩, ⟨r1, _⟩, ⟨r2, _⟩, ⟨r3, _⟩, ⟨r4, _⟩, ⟨r5, _⟩, _⟩ := hI.out.row #[.string (g.M j).name, .slice PA (g.M j).np pc, .int .i64 (g.M j).res, .int .i8 kk, .string tt, .slice AA nn cc] 61 hk2; have hbw2 := hI3.out.2.1.bel; clear hk2 hN2) | (go_at_call 101; (with_reducible refine (hcal.out _ hbw2).mono ?_); rintro e w3 ⟨rfl, hb3⟩; have hI4 := Lib.hid (hI3.out.step hb3); clear hb3))
                      go_roundw
                      case rel => exact ⟨j + 1, by omega, by go_num, by rw [hup.out, Bool.and_true, Bool.and_true], hI4.out⟩
                      case measure => simp [intOf]; omega
                    | false =>
                      have hcal := Lib.hid fun y (hy : Below w.heap.size w y) => hmac.out (g.M j) _ _ _ _ _ _ y (hm.below hy)
                      rw [hfu] at hup hcal
                      have hm' := Lib.hid hm
                      clear hfu hm
                      go_wp2_with (first | (go_at_call 97; (with_reducible refine hfr'.out.mono ?_); rintro e w2 ⟨rfl, hN2, hk2⟩; have hI3 := Lib.hid (hI1.out.keep hN2 hk2); obtain ⟨_, s1, s2, s3⟩ := hI3.out.cells; obtain ⟨⟨r0, _⟩, ⟨r1, _⟩, ⟨r2, _⟩, ⟨r3, _⟩, ⟨r4, _⟩, ⟨r5, _⟩, _⟩ := hI.out.row #[.string (g.M j).name, .slice PA (g.M j).np pc, .int .i64 (g.M j).res, .int .i8 kk, .string tt, .slice AA nn cc] 61 hk2; have hbw2 := hI3.out.2.1.bel; clear hk2 hN2) | (go_at_call 101; (with_reducible refine (hcal.out _ hbw2).mono ?_); rintro e w3 ⟨rfl, hb3⟩; have hI4 := Lib.hid (hI3.out.step hb3); clear hb3))
                      go_roundw
                      case rel => exact ⟨j + 1, by omega, by go_num, by rw [hup.out, Bool.and_false, Bool.and_false, Bool.and_false], hI4.out⟩
                      case measure => simp [intOf]; omega
                  | false =>
                    rw [hfb] at hfr hup
                    have hfr' := Lib.hid hfr
                    have hm' := Lib.hid hm
                    clear hfr hfb hm
                    go_wp2_with (go_at_call 97; (with_reducible refine hfr'.out.mono ?_); rintro e w2 ⟨rfl, hN2, hk2⟩; have hI3 := Lib.hid (hI1.out.keep hN2 hk2); clear hk2 hN2)
                    go_roundw
                    case rel => exact ⟨j + 1, by omega, by go_num, by rw [hup.out, Bool.false_and, Bool.and_false, Bool.and_false], hI3.out⟩
                    case measure => simp [intOf]; omega
                · have i1 : decide ((j : Int) < (g.nm : Int)) = false := decide_eq_false (by omega)
                  have hchk4 : Hid (checkG g = (b3 && upTo j (okMn g))) := by unfold Hid; rw [hchk3.out, show j = g.nm by omega]
                  have hbw := Lib.hid hI.out.2.1.bel
                  clear hchk3 hI hmac
                  generalize (b3 && upTo j (okMn g)) = b4 at *
                  cases b4 with
                  | true =>
                    go_wp2_with fail
                    go_ret
                    exact ⟨by rw [hchk4.out]; rfl, hbw.out⟩
                  | false =>
                    go_wp2_with fail
                    go_ret
                    exact ⟨by rw [hchk4.out]; rfl, hbw.out⟩
end Go.Proofs.YtlhnffmbjejphaaGreat
