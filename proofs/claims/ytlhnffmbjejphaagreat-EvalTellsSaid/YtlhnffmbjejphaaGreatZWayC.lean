/- eval's ways: one contract for all kinds; the row of ways. -/
import Derived.Test.YtlhnffmbjejphaaGreatZWaysWayB
import Derived.Laws.CopyOwn
import Derived.Shelf.Abstract
namespace Go.Proofs.YtlhnffmbjejphaaGreat
open Go.RowKit
set_option maxRecDepth 100000

def wayFn (i : Nat) : Nat := if i = 0 then 52 else if i = 1 then 53 else if i = 2 then 54 else if i = 3 then 55 else if i = 4 then 56 else if i = 5 then 57 else if i = 6 then 58 else if i = 7 then 60 else if i = 8 then 61 else 62
def wayId (op : Int) : Nat := if op = 10 then 63 else if op = 11 then 64 else if op = 12 then 66 else if op = 13 then 67 else 105
def wayCap (B : Nat) (op : Int) : Array Value := if op = 10 then #[] else if op = 11 then #[] else if op = 12 then #[] else if op = 13 then #[.pointer (some ⟨B, 0, none⟩)] else #[.pointer (some ⟨B + 2 + op.toNat, 0, none⟩)]
/-- The boxes of the plain ways. -/
def BoxW (x : World) (B : Nat) : Prop := ∀ i, i < 10 → x.cell? ⟨B + 2 + i, 0, none⟩ = some (.func (.func (wayFn i)) #[] #[])
theorem wayId_ent (op : Int) : ∀ args w, (callFunc (wayId op) args).run Tryz.prog w = .ok (.enter (wayId op) args) w := by
  unfold wayId
  split
  · exact enters_of Tryz.func63 (by kernel_rfl) rfl
  split
  · exact enters_of Tryz.func64 (by kernel_rfl) rfl
  split
  · exact enters_of Tryz.func66 (by kernel_rfl) rfl
  split
  · exact enters_of Tryz.func67 (by kernel_rfl) rfl
  exact enters_of Tryz.func105 (by kernel_rfl) rfl
/-- What a way hands back. -/
def WayR (r : Int × Bool) (w : World) (z : Ending) (w' : World) : Prop := z = .returned (.tuple #[.int .i64 r.1, .bool r.2]) ∧ Below w.heap.size w w'
theorem WayR.of {r : Int × Bool} {s : Int} (h : r = (s, true)) {w w' : World} {z : Ending} (hh : z = .returned (.tuple #[.int .i64 s, .bool true]) ∧ Below w.heap.size w w') : WayR r w z w' := by
  subst h
  exact hh
theorem way_call (B gb : Nat) (e : Nd) (at_ : Int) (v sv fv mv zv wv : Value) (g : Sg) (W : Wd) (V : Nat → Int) (w : World) (hs : StandsP e at_) (hR : NdR e) (hp : WayPre e V) (hv : IntsAt w v e.len.toNat V)
    (hbox : BoxW w B) (hB : B + 12 ≤ w.heap.size) (hg : GameAt w B gb sv fv mv zv wv) (hgb : gb < w.heap.size) (hG : SgAt w sv fv mv g) (hf : FewG g) (hW : WdAt w zv wv W) (hfw : FewW W) :
    Calls Tryz.prog (wayId e.op) (#[ndV e, v] ++ wayCap B e.op) w (WayR (wayT g W e e.len.toNat V) w) := by
  have hl0 := hs.len0
  have hl := ar_len hs
  rcases opw_cases hs.kind with ho | ho | ho | ho | ho | ho | ho | ho | ho | ho | ho | ho | ho | ho <;> rw [ho] at hl
  · have hl : e.len = 0 := hl (by decide)
    rw [show wayId e.op = 105 from by rw [ho]; rfl, show wayCap B e.op = #[.pointer (some ⟨B + 2 + 0, 0, none⟩)] from by rw [ho]; rfl]
    have hw : wayT g W e e.len.toNat V = (1, true) := by simp [wayT, ho]
    exact (plain1_any 52 (enters_of Tryz.func52 (by kernel_rfl) rfl) e v _ (B + 2 + 0) w (hbox 0 (by decide)) (by omega) (fun x hb => way1_any v _ V x (hv.below hb) (by omega))).mono fun _ _ h => WayR.of hw h
  · have hl : e.len = 1 := hl (by decide)
    rw [show wayId e.op = 105 from by rw [ho]; rfl, show wayCap B e.op = #[.pointer (some ⟨B + 2 + 1, 0, none⟩)] from by rw [ho]; rfl]
    have hw : wayT g W e e.len.toNat V = (1 - V 0, true) := by simp [wayT, ho]
    exact (plain1_any 53 (enters_of Tryz.func53 (by kernel_rfl) rfl) e v _ (B + 2 + 1) w (hbox 1 (by decide)) (by omega) (fun x hb => way2_any v _ V x (hv.below hb) (by omega) (hp.one (.inl ho)))).mono fun _ _ h => WayR.of hw h
  · have hl : e.len = 2 := hl (by decide)
    rw [show wayId e.op = 105 from by rw [ho]; rfl, show wayCap B e.op = #[.pointer (some ⟨B + 2 + 2, 0, none⟩)] from by rw [ho]; rfl]
    have hw : wayT g W e e.len.toNat V = (bI (V 0 == 1 && V 1 == 1), true) := by simp [wayT, ho]
    exact (plain1_any 54 (enters_of Tryz.func54 (by kernel_rfl) rfl) e v _ (B + 2 + 2) w (hbox 2 (by decide)) (by omega) (fun x hb => way3_any v _ V x (hv.below hb) (by omega) (hp.two (by omega)).1 (hp.two (by omega)).2)).mono fun _ _ h => WayR.of hw h
  · have hl : e.len = 2 := hl (by decide)
    rw [show wayId e.op = 105 from by rw [ho]; rfl, show wayCap B e.op = #[.pointer (some ⟨B + 2 + 3, 0, none⟩)] from by rw [ho]; rfl]
    have hw : wayT g W e e.len.toNat V = (bI (V 0 == 1 || V 1 == 1), true) := by simp [wayT, ho]
    exact (plain1_any 55 (enters_of Tryz.func55 (by kernel_rfl) rfl) e v _ (B + 2 + 3) w (hbox 3 (by decide)) (by omega) (fun x hb => way4_any v _ V x (hv.below hb) (by omega) (hp.two (by omega)).1 (hp.two (by omega)).2)).mono fun _ _ h => WayR.of hw h
  · have hl : e.len = 2 := hl (by decide)
    rw [show wayId e.op = 105 from by rw [ho]; rfl, show wayCap B e.op = #[.pointer (some ⟨B + 2 + 4, 0, none⟩)] from by rw [ho]; rfl]
    have hw : wayT g W e e.len.toNat V = (bI (V 0 != V 1), true) := by simp [wayT, ho]
    exact (plain1_any 56 (enters_of Tryz.func56 (by kernel_rfl) rfl) e v _ (B + 2 + 4) w (hbox 4 (by decide)) (by omega) (fun x hb => way5_any v _ V x (hv.below hb) (by omega) (hp.two (by omega)).1 (hp.two (by omega)).2)).mono fun _ _ h => WayR.of hw h
  · have hl : e.len = 2 := hl (by decide)
    rw [show wayId e.op = 105 from by rw [ho]; rfl, show wayCap B e.op = #[.pointer (some ⟨B + 2 + 5, 0, none⟩)] from by rw [ho]; rfl]
    have hw : wayT g W e e.len.toNat V = (bI (!(V 0 == 1 && V 1 == 0)), true) := by simp [wayT, ho]
    exact (plain1_any 57 (enters_of Tryz.func57 (by kernel_rfl) rfl) e v _ (B + 2 + 5) w (hbox 5 (by decide)) (by omega) (fun x hb => way6_any v _ V x (hv.below hb) (by omega) (hp.two (by omega)).1 (hp.two (by omega)).2)).mono fun _ _ h => WayR.of hw h
  · have hl : e.len = 2 := hl (by decide)
    rw [show wayId e.op = 105 from by rw [ho]; rfl, show wayCap B e.op = #[.pointer (some ⟨B + 2 + 6, 0, none⟩)] from by rw [ho]; rfl]
    have hw : wayT g W e e.len.toNat V = (bI (V 0 == V 1), true) := by simp [wayT, ho]
    exact (plain1_any 58 (enters_of Tryz.func58 (by kernel_rfl) rfl) e v _ (B + 2 + 6) w (hbox 6 (by decide)) (by omega) (fun x hb => way7_any v _ V x (hv.below hb) (by omega))).mono fun _ _ h => WayR.of hw h
  · have hl : e.len = 3 := hl (by decide)
    rw [show wayId e.op = 105 from by rw [ho]; rfl, show wayCap B e.op = #[.pointer (some ⟨B + 2 + 7, 0, none⟩)] from by rw [ho]; rfl]
    have hw : wayT g W e e.len.toNat V = (if V 0 = 1 then V 1 else V 2, true) := by simp [wayT, ho]
    exact (plain1_any 60 (enters_of Tryz.func60 (by kernel_rfl) rfl) e v _ (B + 2 + 7) w (hbox 7 (by decide)) (by omega) (fun x hb => way8_any v _ V x (hv.below hb) (by omega) (hp.one (.inr ho)))).mono fun _ _ h => WayR.of hw h
  · have hl : e.len = 2 := hl (by decide)
    rw [show wayId e.op = 105 from by rw [ho]; rfl, show wayCap B e.op = #[.pointer (some ⟨B + 2 + 8, 0, none⟩)] from by rw [ho]; rfl]
    have hw : wayT g W e e.len.toNat V = (bI (decide (V 0 ≤ V 1)), true) := by simp [wayT, ho]
    exact (plain1_any 61 (enters_of Tryz.func61 (by kernel_rfl) rfl) e v _ (B + 2 + 8) w (hbox 8 (by decide)) (by omega) (fun x hb => way9_any v _ V x (hv.below hb) (by omega))).mono fun _ _ h => WayR.of hw h
  · have hl : e.len = 2 := hl (by decide)
    rw [show wayId e.op = 105 from by rw [ho]; rfl, show wayCap B e.op = #[.pointer (some ⟨B + 2 + 9, 0, none⟩)] from by rw [ho]; rfl]
    have hw : wayT g W e e.len.toNat V = (bI (decide (V 0 < V 1)), true) := by simp [wayT, ho]
    exact (plain1_any 62 (enters_of Tryz.func62 (by kernel_rfl) rfl) e v _ (B + 2 + 9) w (hbox 9 (by decide)) (by omega) (fun x hb => way10_any v _ V x (hv.below hb) (by omega))).mono fun _ _ h => WayR.of hw h
  · rw [show wayId e.op = 63 from by rw [ho]; rfl, show wayCap B e.op = #[] from by rw [ho]; rfl]
    have hw : wayT g W e e.len.toNat V = (e.num, true) := by simp [wayT, ho]
    exact (way11_any e v w).mono fun _ _ h => WayR.of hw h
  · have hl : e.len = 1 := hl (by decide)
    rw [show wayId e.op = 64 from by rw [ho]; rfl, show wayCap B e.op = #[] from by rw [ho]; rfl]
    have hw : wayT g W e e.len.toNat V = if addOk (V 0) e.num then (V 0 + e.num, true) else (0, false) := by simp [wayT, ho]
    refine (way12_any e v _ V w hv (by omega) hR.num).mono fun z w' h => ?_
    rw [hw]
    cases hq : addOk (V 0) e.num with
    | true => rw [hq] at h; exact h
    | false => rw [hq] at h; exact h
  · have hl : e.len = 2 := hl (by decide)
    rw [show wayId e.op = 66 from by rw [ho]; rfl, show wayCap B e.op = #[] from by rw [ho]; rfl]
    have hw : wayT g W e e.len.toNat V = (bI (atMB (V 0) (V 1) e.num), true) := by simp [wayT, ho]
    exact (way13_any e v _ V w hv (by omega) hR.num).mono fun _ _ h => WayR.of hw h
  · rw [show wayId e.op = 67 from by rw [ho]; rfl, show wayCap B e.op = #[.pointer (some ⟨B, 0, none⟩)] from by rw [ho]; rfl]
    have hw : wayT g W e e.len.toNat V = ((valT g W e.fn e.len.toNat V).1, true) := by simp [wayT, ho]
    exact (way14_any e v sv fv mv zv wv g W _ V B gb w hv hg (by omega) hgb hG hf hW hfw).mono fun _ _ h => WayR.of hw h
theorem plain_any (k : Nat) (w : World) : Calls Tryz.prog 51 #[.func (.func k) #[] #[]] w fun z w' => z = .returned (.func (.func 105) #[] #[.pointer (some ⟨w.heap.size, 0, none⟩)]) ∧ w' = w.alloc (.cells #[.func (.func k) #[] #[]] 118) := by
  have hmf : ∀ (fn : Go.Fn) (first cap : Array Value) (w : World), (Instr.makeFunc fn first cap).run Tryz.prog w = .ok (.func fn first cap) w := fun _ _ _ _ => rfl
  go_enter Tryz.func51, Tryz.ntmps51
  go_wp2
  go_ret
  exact ⟨rfl, rfl⟩
/-- The ways, by their kinds' numbers. -/
def wayA (B : Nat) : Array Value := #[.func (.func 105) #[] #[.pointer (some ⟨B + 2 + 0, 0, none⟩)], .func (.func 105) #[] #[.pointer (some ⟨B + 2 + 1, 0, none⟩)], .func (.func 105) #[] #[.pointer (some ⟨B + 2 + 2, 0, none⟩)], .func (.func 105) #[] #[.pointer (some ⟨B + 2 + 3, 0, none⟩)], .func (.func 105) #[] #[.pointer (some ⟨B + 2 + 4, 0, none⟩)], .func (.func 105) #[] #[.pointer (some ⟨B + 2 + 5, 0, none⟩)], .func (.func 105) #[] #[.pointer (some ⟨B + 2 + 6, 0, none⟩)], .func (.func 105) #[] #[.pointer (some ⟨B + 2 + 7, 0, none⟩)], .func (.func 105) #[] #[.pointer (some ⟨B + 2 + 8, 0, none⟩)], .func (.func 105) #[] #[.pointer (some ⟨B + 2 + 9, 0, none⟩)], .func (.func 63) #[] #[], .func (.func 64) #[] #[], .func (.func 66) #[] #[], .func (.func 67) #[] #[.pointer (some ⟨B, 0, none⟩)]]
theorem wayA_at {B : Nat} {op : Int} (h : 0 ≤ op ∧ op ≤ 13) : (wayA B)[op.toNat]? = some (.func (.func (wayId op)) #[] (wayCap B op)) := by
  have : op = 0 ∨ op = 1 ∨ op = 2 ∨ op = 3 ∨ op = 4 ∨ op = 5 ∨ op = 6 ∨ op = 7 ∨ op = 8 ∨ op = 9 ∨ op = 10 ∨ op = 11 ∨ op = 12 ∨ op = 13 := by omega
  rcases this with h | h | h | h | h | h | h | h | h | h | h | h | h | h <;> subst h <;> rfl
end Go.Proofs.YtlhnffmbjejphaaGreat
