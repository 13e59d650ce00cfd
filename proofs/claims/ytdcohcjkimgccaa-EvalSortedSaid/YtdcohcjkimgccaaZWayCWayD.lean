/- eval's ways: one contract for all kinds; the row of ways. -/
import Derived.Test.YtdcohcjkimgccaaZWaysWayB
import Derived.Laws.CopyOwn
import Derived.Shelf.Abstract
namespace Go.Proofs.Ytdcohcjkimgccaa
open Go.RowKit
set_option maxRecDepth 100000

def wayFn (i : Nat) : Nat := if i = 0 then 86 else if i = 1 then 87 else if i = 2 then 88 else if i = 3 then 89 else if i = 4 then 90 else if i = 5 then 91 else if i = 6 then 92 else if i = 7 then 94 else if i = 8 then 95 else 96
def wayId (op : Int) : Nat := if op = 10 then 97 else if op = 11 then 98 else if op = 12 then 100 else if op = 13 then 101 else 135
def wayCap (B : Nat) (op : Int) : Array Value := if op = 10 then #[] else if op = 11 then #[] else if op = 12 then #[] else if op = 13 then #[.pointer (some ⟨B, 0, none⟩)] else #[.pointer (some ⟨B + 2 + op.toNat, 0, none⟩)]
/-- The boxes of the plain ways. -/
def BoxW (x : World) (B : Nat) : Prop := ∀ i, i < 10 → x.cell? ⟨B + 2 + i, 0, none⟩ = some (.func (.func (wayFn i)) #[] #[])
theorem wayId_ent (op : Int) : ∀ args w, (callFunc (wayId op) args).run Try.prog w = .ok (.enter (wayId op) args) w := by
  unfold wayId
  split
  · exact enters_of Try.func97 (by kernel_rfl) rfl
  split
  · exact enters_of Try.func98 (by kernel_rfl) rfl
  split
  · exact enters_of Try.func100 (by kernel_rfl) rfl
  split
  · exact enters_of Try.func101 (by kernel_rfl) rfl
  exact enters_of Try.func135 (by kernel_rfl) rfl
/-- What a way hands back. -/
def WayR (r : Int × Bool) (w : World) (z : Ending) (w' : World) : Prop := z = .returned (.tuple #[.int .i64 r.1, .bool r.2]) ∧ Below w.heap.size w w'
theorem WayR.of {r : Int × Bool} {s : Int} (h : r = (s, true)) {w w' : World} {z : Ending} (hh : z = .returned (.tuple #[.int .i64 s, .bool true]) ∧ Below w.heap.size w w') : WayR r w z w' := by
  subst h
  exact hh
theorem way_call (B gb : Nat) (e : Nd) (at_ : Int) (v sv fv mv zv wv : Value) (g : Sg) (W : Wd) (V : Nat → Int) (w : World) (hs : StandsP e at_) (hR : NdR e) (hp : WayPre e V) (hv : IntsAt w v e.len.toNat V)
    (hbox : BoxW w B) (hB : B + 12 ≤ w.heap.size) (hg : GameAt w B gb sv fv mv zv wv) (hgb : gb < w.heap.size) (hG : SgAt w sv fv mv g) (hf : FewG g) (hW : WdAt w zv wv W) (hfw : FewW W) :
    Calls Try.prog (wayId e.op) (#[ndV e, v] ++ wayCap B e.op) w (WayR (wayT g W e e.len.toNat V) w) := by
  have hl0 := hs.len0
  have hl := ar_len hs
  rcases opw_cases hs.kind with ho | ho | ho | ho | ho | ho | ho | ho | ho | ho | ho | ho | ho | ho <;> rw [ho] at hl
  · have hl : e.len = 0 := hl (by decide)
    rw [show wayId e.op = 135 from by rw [ho]; rfl, show wayCap B e.op = #[.pointer (some ⟨B + 2 + 0, 0, none⟩)] from by rw [ho]; rfl]
    have hw : wayT g W e e.len.toNat V = (1, true) := by simp [wayT, ho]
    exact (plain1_any 86 (enters_of Try.func86 (by kernel_rfl) rfl) e v _ (B + 2 + 0) w (hbox 0 (by decide)) (by omega) (fun x hb => way1_any v _ V x (hv.below hb) (by omega))).mono fun _ _ h => WayR.of hw h
  · have hl : e.len = 1 := hl (by decide)
    rw [show wayId e.op = 135 from by rw [ho]; rfl, show wayCap B e.op = #[.pointer (some ⟨B + 2 + 1, 0, none⟩)] from by rw [ho]; rfl]
    have hw : wayT g W e e.len.toNat V = (1 - V 0, true) := by simp [wayT, ho]
    exact (plain1_any 87 (enters_of Try.func87 (by kernel_rfl) rfl) e v _ (B + 2 + 1) w (hbox 1 (by decide)) (by omega) (fun x hb => way2_any v _ V x (hv.below hb) (by omega) (hp.one (.inl ho)))).mono fun _ _ h => WayR.of hw h
  · have hl : e.len = 2 := hl (by decide)
    rw [show wayId e.op = 135 from by rw [ho]; rfl, show wayCap B e.op = #[.pointer (some ⟨B + 2 + 2, 0, none⟩)] from by rw [ho]; rfl]
    have hw : wayT g W e e.len.toNat V = (bI (V 0 == 1 && V 1 == 1), true) := by simp [wayT, ho]
    exact (plain1_any 88 (enters_of Try.func88 (by kernel_rfl) rfl) e v _ (B + 2 + 2) w (hbox 2 (by decide)) (by omega) (fun x hb => way3_any v _ V x (hv.below hb) (by omega) (hp.two (by omega)).1 (hp.two (by omega)).2)).mono fun _ _ h => WayR.of hw h
  · have hl : e.len = 2 := hl (by decide)
    rw [show wayId e.op = 135 from by rw [ho]; rfl, show wayCap B e.op = #[.pointer (some ⟨B + 2 + 3, 0, none⟩)] from by rw [ho]; rfl]
    have hw : wayT g W e e.len.toNat V = (bI (V 0 == 1 || V 1 == 1), true) := by simp [wayT, ho]
    exact (plain1_any 89 (enters_of Try.func89 (by kernel_rfl) rfl) e v _ (B + 2 + 3) w (hbox 3 (by decide)) (by omega) (fun x hb => way4_any v _ V x (hv.below hb) (by omega) (hp.two (by omega)).1 (hp.two (by omega)).2)).mono fun _ _ h => WayR.of hw h
  · have hl : e.len = 2 := hl (by decide)
    rw [show wayId e.op = 135 from by rw [ho]; rfl, show wayCap B e.op = #[.pointer (some ⟨B + 2 + 4, 0, none⟩)] from by rw [ho]; rfl]
    have hw : wayT g W e e.len.toNat V = (bI (V 0 != V 1), true) := by simp [wayT, ho]
    exact (plain1_any 90 (enters_of Try.func90 (by kernel_rfl) rfl) e v _ (B + 2 + 4) w (hbox 4 (by decide)) (by omega) (fun x hb => way5_any v _ V x (hv.below hb) (by omega) (hp.two (by omega)).1 (hp.two (by omega)).2)).mono fun _ _ h => WayR.of hw h
  · have hl : e.len = 2 := hl (by decide)
    rw [show wayId e.op = 135 from by rw [ho]; rfl, show wayCap B e.op = #[.pointer (some ⟨B + 2 + 5, 0, none⟩)] from by rw [ho]; rfl]
    have hw : wayT g W e e.len.toNat V = (bI (!(V 0 == 1 && V 1 == 0)), true) := by simp [wayT, ho]
    exact (plain1_any 91 (enters_of Try.func91 (by kernel_rfl) rfl) e v _ (B + 2 + 5) w (hbox 5 (by decide)) (by omega) (fun x hb => way6_any v _ V x (hv.below hb) (by omega) (hp.two (by omega)).1 (hp.two (by omega)).2)).mono fun _ _ h => WayR.of hw h
  · have hl : e.len = 2 := hl (by decide)
    rw [show wayId e.op = 135 from by rw [ho]; rfl, show wayCap B e.op = #[.pointer (some ⟨B + 2 + 6, 0, none⟩)] from by rw [ho]; rfl]
    have hw : wayT g W e e.len.toNat V = (bI (V 0 == V 1), true) := by simp [wayT, ho]
    exact (plain1_any 92 (enters_of Try.func92 (by kernel_rfl) rfl) e v _ (B + 2 + 6) w (hbox 6 (by decide)) (by omega) (fun x hb => way7_any v _ V x (hv.below hb) (by omega))).mono fun _ _ h => WayR.of hw h
  · have hl : e.len = 3 := hl (by decide)
    rw [show wayId e.op = 135 from by rw [ho]; rfl, show wayCap B e.op = #[.pointer (some ⟨B + 2 + 7, 0, none⟩)] from by rw [ho]; rfl]
    have hw : wayT g W e e.len.toNat V = (if V 0 = 1 then V 1 else V 2, true) := by simp [wayT, ho]
    exact (plain1_any 94 (enters_of Try.func94 (by kernel_rfl) rfl) e v _ (B + 2 + 7) w (hbox 7 (by decide)) (by omega) (fun x hb => way8_any v _ V x (hv.below hb) (by omega) (hp.one (.inr ho)))).mono fun _ _ h => WayR.of hw h
  · have hl : e.len = 2 := hl (by decide)
    rw [show wayId e.op = 135 from by rw [ho]; rfl, show wayCap B e.op = #[.pointer (some ⟨B + 2 + 8, 0, none⟩)] from by rw [ho]; rfl]
    have hw : wayT g W e e.len.toNat V = (bI (decide (V 0 ≤ V 1)), true) := by simp [wayT, ho]
    exact (plain1_any 95 (enters_of Try.func95 (by kernel_rfl) rfl) e v _ (B + 2 + 8) w (hbox 8 (by decide)) (by omega) (fun x hb => way9_any v _ V x (hv.below hb) (by omega))).mono fun _ _ h => WayR.of hw h
  · have hl : e.len = 2 := hl (by decide)
    rw [show wayId e.op = 135 from by rw [ho]; rfl, show wayCap B e.op = #[.pointer (some ⟨B + 2 + 9, 0, none⟩)] from by rw [ho]; rfl]
    have hw : wayT g W e e.len.toNat V = (bI (decide (V 0 < V 1)), true) := by simp [wayT, ho]
    exact (plain1_any 96 (enters_of Try.func96 (by kernel_rfl) rfl) e v _ (B + 2 + 9) w (hbox 9 (by decide)) (by omega) (fun x hb => way10_any v _ V x (hv.below hb) (by omega))).mono fun _ _ h => WayR.of hw h
  · rw [show wayId e.op = 97 from by rw [ho]; rfl, show wayCap B e.op = #[] from by rw [ho]; rfl]
    have hw : wayT g W e e.len.toNat V = (e.num, true) := by simp [wayT, ho]
    exact (way11_any e v w).mono fun _ _ h => WayR.of hw h
  · have hl : e.len = 1 := hl (by decide)
    rw [show wayId e.op = 98 from by rw [ho]; rfl, show wayCap B e.op = #[] from by rw [ho]; rfl]
    have hw : wayT g W e e.len.toNat V = if addOk (V 0) e.num then (V 0 + e.num, true) else (0, false) := by simp [wayT, ho]
    refine (way12_any e v _ V w hv (by omega) hR.num).mono fun z w' h => ?_
    rw [hw]
    cases hq : addOk (V 0) e.num with
    | true => rw [hq] at h; exact h
    | false => rw [hq] at h; exact h
  · have hl : e.len = 2 := hl (by decide)
    rw [show wayId e.op = 100 from by rw [ho]; rfl, show wayCap B e.op = #[] from by rw [ho]; rfl]
    have hw : wayT g W e e.len.toNat V = (bI (atMB (V 0) (V 1) e.num), true) := by simp [wayT, ho]
    exact (way13_any e v _ V w hv (by omega) hR.num).mono fun _ _ h => WayR.of hw h
  · rw [show wayId e.op = 101 from by rw [ho]; rfl, show wayCap B e.op = #[.pointer (some ⟨B, 0, none⟩)] from by rw [ho]; rfl]
    have hw : wayT g W e e.len.toNat V = ((valT g W e.fn e.len.toNat V).1, true) := by simp [wayT, ho]
    exact (way14_any e v sv fv mv zv wv g W _ V B gb w hv hg (by omega) hgb hG hf hW hfw).mono fun _ _ h => WayR.of hw h
theorem plain_any (k : Nat) (w : World) : Calls Try.prog 85 #[.func (.func k) #[] #[]] w fun z w' => z = .returned (.func (.func 135) #[] #[.pointer (some ⟨w.heap.size, 0, none⟩)]) ∧ w' = w.alloc (.cells #[.func (.func k) #[] #[]] 142) := by
  have hmf : ∀ (fn : Go.Fn) (first cap : Array Value) (w : World), (Instr.makeFunc fn first cap).run Try.prog w = .ok (.func fn first cap) w := fun _ _ _ _ => rfl
  go_enter Try.func85, Try.ntmps85
  go_wp2
  go_ret
  exact ⟨rfl, rfl⟩
/-- The ways, by their kinds' numbers. -/
def wayA (B : Nat) : Array Value := #[.func (.func 135) #[] #[.pointer (some ⟨B + 2 + 0, 0, none⟩)], .func (.func 135) #[] #[.pointer (some ⟨B + 2 + 1, 0, none⟩)], .func (.func 135) #[] #[.pointer (some ⟨B + 2 + 2, 0, none⟩)], .func (.func 135) #[] #[.pointer (some ⟨B + 2 + 3, 0, none⟩)], .func (.func 135) #[] #[.pointer (some ⟨B + 2 + 4, 0, none⟩)], .func (.func 135) #[] #[.pointer (some ⟨B + 2 + 5, 0, none⟩)], .func (.func 135) #[] #[.pointer (some ⟨B + 2 + 6, 0, none⟩)], .func (.func 135) #[] #[.pointer (some ⟨B + 2 + 7, 0, none⟩)], .func (.func 135) #[] #[.pointer (some ⟨B + 2 + 8, 0, none⟩)], .func (.func 135) #[] #[.pointer (some ⟨B + 2 + 9, 0, none⟩)], .func (.func 97) #[] #[], .func (.func 98) #[] #[], .func (.func 100) #[] #[], .func (.func 101) #[] #[.pointer (some ⟨B, 0, none⟩)]]
theorem wayA_at {B : Nat} {op : Int} (h : 0 ≤ op ∧ op ≤ 13) : (wayA B)[op.toNat]? = some (.func (.func (wayId op)) #[] (wayCap B op)) := by
  have : op = 0 ∨ op = 1 ∨ op = 2 ∨ op = 3 ∨ op = 4 ∨ op = 5 ∨ op = 6 ∨ op = 7 ∨ op = 8 ∨ op = 9 ∨ op = 10 ∨ op = 11 ∨ op = 12 ∨ op = 13 := by omega
  rcases this with h | h | h | h | h | h | h | h | h | h | h | h | h | h <;> subst h <;> rfl
end Go.Proofs.Ytdcohcjkimgccaa

namespace Go.Proofs.Ytdcohcjkimgccaa
open Go.RowKit
set_option maxRecDepth 100000

theorem way_size : (Try.prog.info? 103).map (·.size) = some 14 := by kernel_rfl
def wayZ : Array Value := #[.nilFunc, .nilFunc, .nilFunc, .nilFunc, .nilFunc, .nilFunc, .nilFunc, .nilFunc, .nilFunc, .nilFunc, .nilFunc, .nilFunc, .nilFunc, .nilFunc]
theorem way_one (B : Nat) : (wayA B).all (·.oneCell') = true := by simp [wayA, Value.oneCell']
theorem cellsK.setRow {K : List (Nat × Nat × Value)} {x : World} {g : Nat} {cs : Array Value} (h : cellsK K x) (hK : ∀ a ∈ K, a.1 ≠ g) : cellsK K (x.setRow g cs) := by
  induction K with
  | nil => trivial
  | cons a K ih =>
    obtain ⟨b, o, v⟩ := a
    obtain ⟨⟨h0, h1⟩, h2⟩ := h
    have hne : b ≠ g := hK (b, o, v) (by simp)
    refine ⟨⟨?_, by simpa [World.setRow] using h1⟩, ih h2 fun a ha => hK a (by simp [ha])⟩
    rw [← h0]
    have hh := setRow_other x g b cs hne
    unfold World.cell?
    dsimp only
    rw [hh]
theorem Bx.setRow {w x : World} {K : List (Nat × Nat × Value)} (h : Bx w K x) {g : Nat} (cs : Array Value) (hg : w.heap.size ≤ g) (hK : ∀ a ∈ K, a.1 ≠ g) : Bx w K (x.setRow g cs) := ⟨h.cells.setRow hK, below_setRow h.bel hg cs⟩
/-- What the call of ways has made. -/
def wayX (w : World) (gb : Nat) : World := (((((((((((w.alloc (.cells #[.pointer (some ⟨gb, 0, none⟩)] 104)).alloc (.cells wayZ 103)).alloc (.cells #[.func (.func 86) #[] #[]] 142)).alloc (.cells #[.func (.func 87) #[] #[]] 142)).alloc (.cells #[.func (.func 88) #[] #[]] 142)).alloc (.cells #[.func (.func 89) #[] #[]] 142)).alloc (.cells #[.func (.func 90) #[] #[]] 142)).alloc (.cells #[.func (.func 91) #[] #[]] 142)).alloc (.cells #[.func (.func 92) #[] #[]] 142)).alloc (.cells #[.func (.func 94) #[] #[]] 142)).alloc (.cells #[.func (.func 95) #[] #[]] 142)).alloc (.cells #[.func (.func 96) #[] #[]] 142)
theorem wayX_row (w : World) (gb : Nat) : (wayX w gb).heap[w.heap.size + 1]? = some (.cells wayZ 103 (0, 0)) := by
  unfold wayX
  iterate 10 refine (heap_alloc_old _ _ (by simp; try omega)).trans ?_
  have h := heap_alloc_new (w.alloc (.cells #[.pointer (some ⟨gb, 0, none⟩)] 104)) (.cells wayZ 103)
  rwa [World.size_alloc] at h
def wayK (B gb : Nat) : List (Nat × Nat × Value) := [(B + 11, 0, .func (.func 96) #[] #[]), (B + 10, 0, .func (.func 95) #[] #[]), (B + 9, 0, .func (.func 94) #[] #[]), (B + 8, 0, .func (.func 92) #[] #[]), (B + 7, 0, .func (.func 91) #[] #[]), (B + 6, 0, .func (.func 90) #[] #[]), (B + 5, 0, .func (.func 89) #[] #[]), (B + 4, 0, .func (.func 88) #[] #[]), (B + 3, 0, .func (.func 87) #[] #[]), (B + 2, 0, .func (.func 86) #[] #[]), (B, 0, .pointer (some ⟨gb, 0, none⟩))]
theorem wayX_bx (w : World) (gb : Nat) : Bx w (wayK w.heap.size gb) (wayX w gb) := by
  have h := ((((((((((((((((((((((Bx.nil w).one (.pointer (some ⟨gb, 0, none⟩)) 104).skip (.cells wayZ 103)).one (.func (.func 86) #[] #[]) 142)).one (.func (.func 87) #[] #[]) 142)).one (.func (.func 88) #[] #[]) 142)).one (.func (.func 89) #[] #[]) 142)).one (.func (.func 90) #[] #[]) 142)).one (.func (.func 91) #[] #[]) 142)).one (.func (.func 92) #[] #[]) 142)).one (.func (.func 94) #[] #[]) 142)).one (.func (.func 95) #[] #[]) 142)).one (.func (.func 96) #[] #[]) 142)
  simp only [World.size_alloc] at h
  exact h
theorem wayX_size (w : World) (gb : Nat) : (wayX w gb).heap.size = w.heap.size + 12 := by simp [wayX]
theorem wayK_ne {B gb : Nat} : ∀ a ∈ wayK B gb, a.1 ≠ B + 1 := by
  intro a ha
  simp [wayK] at ha
  rcases ha with rfl | rfl | rfl | rfl | rfl | rfl | rfl | rfl | rfl | rfl | rfl <;> simp
theorem wayK_box {x : World} {B gb : Nat} (h : cellsK (wayK B gb) x) : BoxW x B ∧ x.cell? ⟨B, 0, none⟩ = some (.pointer (some ⟨gb, 0, none⟩)) := by
  obtain ⟨⟨h9, _⟩, ⟨h8, _⟩, ⟨h7, _⟩, ⟨h6, _⟩, ⟨h5, _⟩, ⟨h4, _⟩, ⟨h3, _⟩, ⟨h2, _⟩, ⟨h1, _⟩, ⟨h0, _⟩, ⟨hg, _⟩, _⟩ := h
  refine ⟨fun i hi => ?_, hg⟩
  have : i = 0 ∨ i = 1 ∨ i = 2 ∨ i = 3 ∨ i = 4 ∨ i = 5 ∨ i = 6 ∨ i = 7 ∨ i = 8 ∨ i = 9 := by omega
  rcases this with rfl | rfl | rfl | rfl | rfl | rfl | rfl | rfl | rfl | rfl
  · exact h0
  · exact h1
  · exact h2
  · exact h3
  · exact h4
  · exact h5
  · exact h6
  · exact h7
  · exact h8
  · exact h9
theorem results_way {fn : Func} {p : Tmp} (h : fn.results = #[.cell p 103]) (tmps : Array Value) (w : World) (g : Nat) (cs : Array Value) (hs : 14 = cs.size)
    (hp : tmps.getD p undef = .pointer (some ⟨g, 0, none⟩)) (hc : w.heap[g]? = some (.cells cs 103 (0, 0))) : (results fn tmps).run Try.prog w = .ok (.agg cs) w := by
  have hp' : tmps[p]?.getD undef = .pointer (some ⟨g, 0, none⟩) := by simpa using hp
  have hl := run_loadVar_row (P := Try.prog) w g 103 103 cs (0, 0) _ hc Try.underlying103 rfl (by rw [way_size, hs])
  simp [results, h, hp', asAddr, hl]
set_option maxHeartbeats 4000000 in
theorem ways_any (gb : Nat) (w : World) : Calls Try.prog 51 #[.pointer (some ⟨gb, 0, none⟩)] w fun z w' =>
    z = .returned (.agg (wayA w.heap.size)) ∧ Bx w (wayK w.heap.size gb) w' ∧ w.heap.size + 12 ≤ w'.heap.size := by
  have hmf : ∀ (fn : Go.Fn) (first cap : Array Value) (w : World), (Instr.makeFunc fn first cap).run Try.prog w = .ok (.func fn first cap) w := fun _ _ _ _ => rfl
  go_enter Try.func51, Try.ntmps51
  go_wp2_with (first | (go_at_call 85; refine (plain_any _ _).mono ?_; rintro z w' ⟨rfl, rfl⟩) | (refine wpList_store_row rfl 103 (.tmp 2) (.tmp 14) rfl (w.heap.size + 1) (wayA w.heap.size) rfl rfl 103 _ (wayX_row w gb) way_size rfl (way_one _) ?_))
  have hx := (wayX_bx w gb).setRow (wayA w.heap.size) (g := w.heap.size + 1) (by omega) wayK_ne
  refine bodyPost_ret (results_way rfl _ _ (w.heap.size + 1) (wayA w.heap.size) rfl rfl (setRow_heap _ _ _ _ _ _ (wayX_row w gb))) rfl ⟨rfl, hx, ?_⟩
  have := wayX_size w gb
  show w.heap.size + 12 ≤ ((wayX w gb).setRow _ _).heap.size
  simp [World.setRow, this]
end Go.Proofs.Ytdcohcjkimgccaa
