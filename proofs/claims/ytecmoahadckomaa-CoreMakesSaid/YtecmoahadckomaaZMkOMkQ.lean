/- core.Of. -/
import Derived.Test.YtecmoahadckomaaZMkKMkLMkN
import Derived.Laws.EntriesVeiled
import Derived.Test.YtecmoahadckomaaZEvPToEvN
namespace Go.Proofs.Ytecmoahadckomaa
open Go.RowKit Go.Maps
set_option maxRecDepth 1000000

/-- One walk after another over the roots. -/
def RootsP (Wk : CSt × CK → Nat → CSt × CK → Int → Prop) (R : Nat → Int) : Nat → CSt × CK → CSt × CK → (Nat → Int) → Prop
  | 0, s, s', _ => s' = s
  | k + 1, s, s', X => ∃ s1, RootsP Wk R k s s1 X ∧ Wk s1 (R k).toNat s' (X k)
def s012 : CSt × CK := (⟨2, newN, 0⟩, fun _ => none)
/-- What Of gives: a table, images, an error. -/
inductive Of12 (n : Nat) (N : Nat → Nd) (m : Nat) (R : Nat → Int) (most : Int) : Nat → (Nat → Nd) → Nat → (Nat → Int) → Int → Prop
  | arg (h : ¬ (CheckP n N ∧ ∀ i, i < m → 0 ≤ R i ∧ R i < n)) (M : Nat → Nd) (X : Nat → Int) : Of12 n N m R most 0 M 0 X 2
  | sort (h : CheckP n N) (hr : ∀ i, i < m → 0 ≤ R i ∧ R i < n) (hf : fitsB n N = false) (M : Nat → Nd) (X : Nat → Int) : Of12 n N m R most 0 M 0 X 33
  | no (h : CheckP n N) (hr : ∀ i, i < m → 0 ≤ R i ∧ R i < n) (hf : fitsB n N = true) (s : CSt × CK) (Y : Nat → Int) (hw : RootsP (WalkP N most n) R m s012 s Y) (he : s.1.e ≠ 0) (M : Nat → Nd) (X : Nat → Int) : Of12 n N m R most 0 M 0 X s.1.e
  | ok (h : CheckP n N) (hr : ∀ i, i < m → 0 ≤ R i ∧ R i < n) (hf : fitsB n N = true) (s : CSt × CK) (X : Nat → Int) (hw : RootsP (WalkP N most n) R m s012 s X) (he : s.1.e = 0) (hs : InvK n s) (hX : ∀ i, i < m → 0 ≤ X i ∧ X i < s.1.n) : Of12 n N m R most s.1.n s.1.N m X 0
def Of12Post (n : Nat) (N : Nat → Nd) (m : Nat) (R : Nat → Int) (most : Int) (w : World) (z : Ending) (w' : World) : Prop :=
  ∃ v' vl m' M k X er, z = .returned (.tuple #[.agg #[v'], vl, .int .i64 er]) ∧ Of12 n N m R most m' M k X er ∧ NdsAt w' v' m' M ∧ IntsAt w' vl k X ∧ Below w.heap.size w w'
theorem IntsAt.nilI (w : World) (f : Nat → Int) : IntsAt w (.slice none 0 0) 0 f := ⟨none, 0, rfl, by omega, fun _ h => absurd h (Nat.not_lt_zero _), fun h => absurd h (Nat.not_lt_zero _)⟩
theorem results_of12 {fn : Func} {p u x : Tmp} (h : fn.results = #[.cell p 24, .tmp u, .tmp x]) (tmps : Array Value) (w : World) (g : Nat) (v a b : Value)
    (hp : tmps.getD p undef = .pointer (some ⟨g, 0, none⟩)) (hc : w.cell? ⟨g, 0, none⟩ = some v) (ha : tmps.getD u undef = a) (hb : tmps.getD x undef = b) : (results fn tmps).run Try.prog w = .ok (.tuple #[.agg #[v], a, b]) w := by
  subst ha; subst hb
  exact results_tab2 h tmps w g v hp hc
section
variable {w w' : World} {g base : Nat} {most : Int} {s : CSt} {v : Value} {xs : List Int}
theorem MkrAt.grown (h : MkrAt w g most s) (hg : w.grownBy w' v.ownBlock) (hown : OwnI w base v xs) (hgb : g < base) : MkrAt w' g most s := by
  have hl := h.lt
  have hge : ∀ b, v.ownBlock = some b → base ≤ b := fun b hb => by
    rcases hown.1.2 with ⟨rfl, _⟩ | ⟨g', cap, cur, rfl, hbg, _⟩
    · cases hb
    · have hb : some g' = some b := hb
      injection hb with hb
      subst hb; exact hbg
  obtain ⟨u, h, hv⟩ := h
  refine ⟨u, (hg.block g hl (fun e => by have := hge g e.symm; omega)).trans h, ?_⟩
  have hv' := hv
  obtain ⟨A, c, rfl, hn, hr, hc⟩ := hv
  refine ⟨A, c, rfl, hn, hr, fun h0 => ?_⟩
  obtain ⟨b, o, rfl, hlt, hc⟩ := hc h0
  have hne := hown.ne hv' h0
  refine ⟨b, o, rfl, by have := hg.size; omega, fun i hi => (hc i hi).keep fun j => World.cell?_of_block (w := w) (hg.block b hlt (fun e => hne e.symm))⟩
theorem KnAt.grown {kb n : Nat} {K : CK} (h : KnAt w kb n K) (hg : w.grownBy w' v.ownBlock) (hown : OwnI w base v xs) (hgb : kb < base) : KnAt w' kb n K := by
  have hl := h.lt
  have hge : ∀ b, v.ownBlock = some b → base ≤ b := fun b hb => by
    rcases hown.1.2 with ⟨rfl, _⟩ | ⟨g', cap, cur, rfl, hbg, _⟩
    · cases hb
    · have hb : some g' = some b := hb
      injection hb with hb
      subst hb; exact hbg
  obtain ⟨D, ⟨es, clock, h1, h2⟩, hD⟩ := h
  exact ⟨D, ⟨es, clock, (hg.block kb hl (fun e => by have := hge kb e.symm; omega)).trans h1, h2⟩, hD⟩
theorem But.grown {S : List Nat} {B : Nat} {a : World} (h : But S B a w) (hg : w.grownBy w' v.ownBlock) (hown : OwnI w base v xs) (hB : B ≤ base) (hBw : B ≤ w.heap.size) : But S B a w' := by
  have hge : ∀ b, v.ownBlock = some b → base ≤ b := fun b hb => by
    rcases hown.1.2 with ⟨rfl, _⟩ | ⟨g', cap, cur, rfl, hbg, _⟩
    · cases hb
    · have hb : some g' = some b := hb
      injection hb with hb
      subst hb; exact hbg
  exact ⟨hg.os.trans h.os, hg.tape.trans h.tape, hg.output.trans h.output, Nat.le_trans h.size hg.size, fun k h1 h2 => (hg.block k (by omega) (fun e => by have := hge k e.symm; omega)).trans (h.block k h1 h2)⟩
end
/-- The world in which the walks begin. -/
def worldO (w4 : World) (g kb B0 : Nat) : World :=
  (((w4.alloc (.cells #[.pointer (some ⟨g, 0, none⟩)] 43)).alloc (.cells #[.map (some kb)] 46)).alloc (.cells waysA 48)).alloc
    (.cells #[.func (.func 22) #[] #[.pointer (some ⟨w4.heap.size + 1, 0, none⟩), .pointer (some ⟨w4.heap.size, 0, none⟩), .pointer (some ⟨B0, 0, none⟩), .pointer (some ⟨w4.heap.size + 1 + 1 + 1, 0, none⟩), .pointer (some ⟨w4.heap.size + 1 + 1, 0, none⟩)]] 50)
theorem worldO_bel (w4 : World) (g kb B0 : Nat) : Below w4.heap.size w4 (worldO w4 g kb B0) := by
  unfold worldO
  exact ((((Below.refl _ _).alloc (Nat.le_refl _) _).alloc (by simp) _).alloc (by simp; omega) _).alloc (by simp; omega) _
theorem worldO_size (w4 : World) (g kb B0 : Nat) : (worldO w4 g kb B0).heap.size = w4.heap.size + 4 := by unfold worldO; simp
theorem worldO_H (w w4 : World) (g kb : Nat) {tb to_ tc nt : Nat} {NT : Nat → Nd} (hB : Below w.heap.size w w4) (h0 : w.heap.size < g) (hgk : g < kb) (hk : kb < w4.heap.size)
    (htb : tb < w.heap.size) (hn : ∀ i, i < nt → NdIn w tb (to_ + i * 8) (NT i)) (hc : w4.cell? ⟨w.heap.size, 0, none⟩ = some (.slice (some ⟨tb, to_, none⟩) nt tc)) :
    WkH (worldO w4 g kb w.heap.size) (w4.heap.size + 1) w4.heap.size w.heap.size (w4.heap.size + 1 + 1 + 1) (w4.heap.size + 1 + 1) kb g tb to_ tc nt NT := by
  have hb := worldO_bel w4 g kb w.heap.size
  have hz := worldO_size w4 g kb w.heap.size
  have hww : w.heap.size ≤ w4.heap.size := hB.size
  refine ⟨⟨⟨by omega, by omega, by omega, by omega, by omega⟩, by omega, by omega, by omega⟩, ⟨⟨by omega, by omega, by omega, by omega, by omega, by omega, by omega⟩, by omega, by omega, by omega, by omega, by omega, by omega⟩, ?_, ?_, ?_, ?_, ?_, ?_⟩
  · have hr : (worldO w4 g kb w.heap.size).heap[w4.heap.size + 1]? = some (.cells #[.map (some kb)] 46 (0, 0)) := by
      unfold worldO
      refine (heap_alloc_old _ _ (by simp)).trans ((heap_alloc_old _ _ (by simp)).trans ?_)
      have := heap_alloc_new (w4.alloc (.cells #[.pointer (some ⟨g, 0, none⟩)] 43)) (.cells #[.map (some kb)] 46)
      simp only [World.size_alloc] at this
      exact this
    exact cell_of_one hr
  · have hr : (worldO w4 g kb w.heap.size).heap[w4.heap.size]? = some (.cells #[.pointer (some ⟨g, 0, none⟩)] 43 (0, 0)) := by
      unfold worldO
      exact (heap_alloc_old _ _ (by simp; omega)).trans ((heap_alloc_old _ _ (by simp; omega)).trans ((heap_alloc_old _ _ (by simp)).trans (heap_alloc_new _ _)))
    exact cell_of_one hr
  · exact (hb.cell (p := ⟨w.heap.size, 0, none⟩) (by show w.heap.size < _; omega)).trans hc
  · have hr : (worldO w4 g kb w.heap.size).heap[w4.heap.size + 1 + 1 + 1]? = some (.cells #[.func (.func 22) #[] #[.pointer (some ⟨w4.heap.size + 1, 0, none⟩), .pointer (some ⟨w4.heap.size, 0, none⟩), .pointer (some ⟨w.heap.size, 0, none⟩), .pointer (some ⟨w4.heap.size + 1 + 1 + 1, 0, none⟩), .pointer (some ⟨w4.heap.size + 1 + 1, 0, none⟩)]] 50 (0, 0)) := by
      unfold worldO
      have := heap_alloc_new (((w4.alloc (.cells #[.pointer (some ⟨g, 0, none⟩)] 43)).alloc (.cells #[.map (some kb)] 46)).alloc (.cells waysA 48))
        (.cells #[.func (.func 22) #[] #[.pointer (some ⟨w4.heap.size + 1, 0, none⟩), .pointer (some ⟨w4.heap.size, 0, none⟩), .pointer (some ⟨w.heap.size, 0, none⟩), .pointer (some ⟨w4.heap.size + 1 + 1 + 1, 0, none⟩), .pointer (some ⟨w4.heap.size + 1 + 1, 0, none⟩)]] 50)
      simp only [World.size_alloc] at this
      exact this
    exact cell_of_one hr
  · intro i hi
    have hr : (worldO w4 g kb w.heap.size).heap[w4.heap.size + 1 + 1]? = some (.cells waysA 48 (0, 0)) := by
      unfold worldO
      refine (heap_alloc_old _ _ (by simp)).trans ?_
      have := heap_alloc_new ((w4.alloc (.cells #[.pointer (some ⟨g, 0, none⟩)] 43)).alloc (.cells #[.map (some kb)] 46)) (.cells waysA 48)
      simp only [World.size_alloc] at this
      exact this
    rw [cell_of_row _ _ _ _ _ _ hr]
    exact waysA_at hi
  · intro i hi
    exact (hn i hi).keep fun j => (hb.cell (p := ⟨tb, j, none⟩) (by show tb < _; omega)).trans (hB.cell (p := ⟨tb, j, none⟩) htb)
/-- What holds between one root and the next. -/
def OfI (N : Nat → Nd) (most : Int) (n : Nat) (R : Nat → Int) (g kb : Nat) (W0 : World) (z : Value) (k : Nat) (wr : World) : Prop :=
  ∃ s1 n1 X, RootsP (WalkP N most n) R k s012 s1 X ∧ OwnI wr W0.heap.size z ((List.range k).map X) ∧ MkrAt wr g most s1.1 ∧ KnAt wr kb n1 s1.2 ∧ n1 ≤ cntK s1.2 n ∧ InvK n s1 ∧ (∀ i, i < k → 0 ≤ X i ∧ X i < s1.1.n) ∧ But [g, kb] W0.heap.size W0 wr
theorem RootsP.congr {Wk : CSt × CK → Nat → CSt × CK → Int → Prop} {R : Nat → Int} {V V' : Nat → Int} : ∀ {k : Nat} {s s' : CSt × CK}, (∀ i, i < k → V i = V' i) → RootsP Wk R k s s' V → RootsP Wk R k s s' V'
  | 0, _, _, _, h => h
  | k + 1, s, s', hV, ⟨s1, h1, h2⟩ => ⟨s1, h1.congr fun i hi => hV i (by omega), by rw [← hV k (by omega)]; exact h2⟩
theorem RootsP.more {Wk : CSt × CK → Nat → CSt × CK → Int → Prop} {R : Nat → Int} {k : Nat} {s s1 s2 : CSt × CK} {V : Nat → Int} {x : Int} (h : RootsP Wk R k s s1 V) (h' : Wk s1 (R k).toNat s2 x) : RootsP Wk R (k + 1) s s2 (fun i => if i = k then x else V i) :=
  ⟨s1, h.congr fun i hi => by rw [if_neg (by omega)], by dsimp only; rw [if_pos rfl]; exact h'⟩
theorem range_more {V : Nat → Int} {x : Int} {k : Nat} : (List.range (k + 1)).map (fun i => if i = k then x else V i) = (List.range k).map V ++ [x] := by
  rw [List.range_succ, List.map_append]
  congr 1
  · refine List.map_congr_left fun i hi => ?_
    have := List.mem_range.1 hi
    rw [if_neg (by omega)]
  · simp
theorem inv_start (nt : Nat) : InvK nt s012 := ⟨check_new, fun i x h => (by cases h), by show 2 ≤ 2 + _; omega⟩
set_option maxHeartbeats 16000000 in
theorem Of12_any (v u : Value) (n m : Nat) (N : Nat → Nd) (R : Nat → Int) (most : Int) (w : World) (hv : NdsAt w v n N) (hu : IntsAt w u m R) (hn : n ≤ 3000) (hm : m ≤ 1000) (hmo : R64 most) :
    Calls Try.prog 8 #[.agg #[v], u, .int .i64 most] w (Of12Post n N m R most w) := by
  have hv' := Lib.hid hv
  have hu' := Lib.hid hu
  obtain ⟨A, c, rfl, -, -, -⟩ := hv
  obtain ⟨U, cu, rfl, -, -, -⟩ := hu
  have hx0 := Lib.hid (bx_two w A n c 24 24)
  have hf0 := frz_two w A n c 24 24
  obtain ⟨⟨r0, rz⟩, ⟨q0, qz⟩, -⟩ := hx0.out.cells
  have hCk := Lib.hid (Check_any (.slice A n c) n N _ (hv'.out.below hx0.out.bel) (by omega))
  go_enter Try.func8, Try.ntmps8
  go_wp2_with fail
  refine hCk.out.mono ?_
  rintro e w1 ⟨rfl, hb1⟩
  have hx1 := Lib.hid (hx0.out.step hb1)
  have hf1 : w1.frozen? ⟨w.heap.size + 1, 0, none⟩ = false := (hb1.frozen (p := ⟨w.heap.size + 1, 0, none⟩) (by simp)).trans hf0
  clear hb1 hCk hf0 r0 rz q0 qz hx0
  obtain ⟨⟨r0, rz⟩, ⟨q0, qz⟩, -⟩ := hx1.out.cells
  rcases Classical.em (CheckP n N) with hch | hch
  case inr =>
    have hck : (checkT n N != 0) = true := by rw [check_not hch]; rfl
    have hR := Lib.hid (Of12.arg (most := most) (m := m) (R := R) (fun h => hch h.1) N R)
    go_wp2_with fail
    refine bodyPost_ret (results_of12 rfl _ _ (w.heap.size + 1) (.slice none 0 0) (.slice none 0 0) (.int .i64 2) rfl (World.cell?_setCell_same' _ _ _ (by rw [r0]; rfl)) rfl rfl) rfl ⟨_, _, 0, N, 0, R, 2, rfl, hR.out, NdsAt.nil _ _, IntsAt.nilI _ _, hx1.out.bel.setCell (p := ⟨w.heap.size + 1, 0, none⟩) (by show w.heap.size ≤ w.heap.size + 1; omega) _⟩
  have hck : (checkT n N != 0) = false := by rw [check_yes hch]; rfl
  have hch' := Lib.hid hch
  have h2 := hch.two
  clear hch
  go_wp2_with fail
  clear r0 rz q0 qz hck
  go_loopw [7, 8, 24] (fun za zb i wr => ∃ j : Nat, j ≤ m ∧ i = .int .i64 j ∧ za = .slice none 0 0 ∧ zb = .int .i64 0 ∧ Hid (∀ i, i < j → 0 ≤ R i ∧ R i < n) ∧ Hid (Bx w ((w.heap.size + 1, 0, .slice none 0 0) :: (w.heap.size, 0, .slice A n c) :: []) wr ∧ wr.frozen? ⟨w.heap.size + 1, 0, none⟩ = false)) (fun _ _ i _ => m - (intOf i).toNat)
  case atStart => exact ⟨0, Nat.zero_le _, rfl, rfl, rfl, fun i hi => absurd hi (Nat.not_lt_zero i), hx1.out, hf1⟩
  case round =>
  clear hx1 hf1
  obtain ⟨j, hj, rfl, rfl, rfl, hin, hx1⟩ := hrel
  obtain ⟨⟨r0, rz⟩, ⟨q0, qz⟩, -⟩ := hx1.out.1.cells
  have hf1 := hx1.out.2
  by_cases hlt : j < m
  · have i1 : decide ((j : Int) < (m : Int)) = true := decide_eq_true (by omega)
    obtain ⟨_, _, e1, _, hRR, hcu⟩ := hu'.out
    injection e1 with e1 _ e3
    subst e1; subst e3
    obtain ⟨ub, uo, rfl, hub, hcu⟩ := hcu (by omega)
    have rj := (hx1.out.1.bel.cell (p := ⟨ub, uo + j, none⟩) hub).trans (hcu j hlt)
    have hj0 : (0 : Int) ≤ (j : Int) := by omega
    have hjm : (j : Int) < (m : Int) := by omega
    clear hcu
    by_cases hr0 : R j < 0
    · have d1 : decide (R j < 0) = true := decide_eq_true hr0
      have hR := Lib.hid (Of12.arg (n := n) (N := N) (most := most) (m := m) (R := R) (fun h => by have := h.2 j hlt; omega) N R)
      clear hr0
      go_wp2_with fail
      refine bodyPost_ret (results_of12 rfl _ _ (w.heap.size + 1) (.slice none 0 0) (.slice none 0 0) (.int .i64 2) rfl (World.cell?_setCell_same' _ _ _ (by rw [r0]; rfl)) rfl rfl) rfl ⟨_, _, 0, N, 0, R, 2, rfl, hR.out, NdsAt.nil _ _, IntsAt.nilI _ _, hx1.out.1.bel.setCell (p := ⟨w.heap.size + 1, 0, none⟩) (by show w.heap.size ≤ w.heap.size + 1; omega) _⟩
    have d1 : decide (R j < 0) = false := decide_eq_false hr0
    by_cases hr1 : (n : Int) ≤ R j
    · have d2 : decide ((n : Int) ≤ R j) = true := decide_eq_true hr1
      have hR := Lib.hid (Of12.arg (n := n) (N := N) (most := most) (m := m) (R := R) (fun h => by have := h.2 j hlt; omega) N R)
      clear hr0 hr1
      go_wp2_with fail
      refine bodyPost_ret (results_of12 rfl _ _ (w.heap.size + 1) (.slice none 0 0) (.slice none 0 0) (.int .i64 2) rfl (World.cell?_setCell_same' _ _ _ (by rw [r0]; rfl)) rfl rfl) rfl ⟨_, _, 0, N, 0, R, 2, rfl, hR.out, NdsAt.nil _ _, IntsAt.nilI _ _, hx1.out.1.bel.setCell (p := ⟨w.heap.size + 1, 0, none⟩) (by show w.heap.size ≤ w.heap.size + 1; omega) _⟩
    have d2 : decide ((n : Int) ≤ R j) = false := decide_eq_false hr1
    have hnx : Hid (∀ i, i < j + 1 → 0 ≤ R i ∧ R i < n) := fun i hi => by
      by_cases e : i = j
      · subst e; omega
      · exact hin.out i (by omega)
    clear hr0 hr1
    go_wp2_with fail
    go_roundw
    case rel => exact ⟨j + 1, by omega, by go_num, rfl, rfl, hnx, hx1.out⟩
    case measure => simp [intOf]; omega
  have i1 : decide ((j : Int) < (m : Int)) = false := decide_eq_false (by omega)
  obtain rfl : j = m := by omega
  have hFi := Lib.hid (Fits_any (.slice A n c) n N wr (hv'.out.below hx1.out.1.bel) hch'.out (by omega))
  clear hlt hj
  go_wp2_with fail
  refine hFi.out.mono ?_
  rintro e w2 ⟨rfl, hb2⟩
  have hx2 := Lib.hid (hx1.out.1.step hb2)
  have hf2 : w2.frozen? ⟨w.heap.size + 1, 0, none⟩ = false := (hb2.frozen (p := ⟨w.heap.size + 1, 0, none⟩) rz).trans hf1
  clear hb2 hFi hf1 r0 rz q0 qz hx1
  obtain ⟨⟨r0, rz⟩, ⟨q0, qz⟩, -⟩ := hx2.out.cells
  by_cases hfit : fitsB n N = true
  case neg =>
    have hfit : fitsB n N = false := by simpa using hfit
    have hR := Lib.hid (Of12.sort (most := most) hch'.out hin.out hfit N R)
    rw [hfit]
    clear hfit
    go_wp2_with fail
    refine bodyPost_ret (results_of12 rfl _ _ (w.heap.size + 1) (.slice none 0 0) (.slice none 0 0) (.int .i64 33) rfl (World.cell?_setCell_same' _ _ _ (by rw [r0]; rfl)) rfl rfl) rfl ⟨_, _, 0, N, 0, R, 33, rfl, hR.out, NdsAt.nil _ _, IntsAt.nilI _ _, hx2.out.bel.setCell (p := ⟨w.heap.size + 1, 0, none⟩) (by show w.heap.size ≤ w.heap.size + 1; omega) _⟩
  rw [hfit]
  have hfit' := Lib.hid hfit
  have hNw := Lib.hid (New_any w2)
  clear hfit
  go_wp2_with fail
  refine hNw.out.mono ?_
  rintro e w3 ⟨v3, rfl, hN3, hb3⟩
  have hN3' := Lib.hid hN3
  obtain ⟨A3, c3, rfl, -, -, -⟩ := hN3
  have hb3' := Lib.hid hb3
  clear hb3 hNw
  have hmm : ∀ W : World, (Instr.makeMap 46 none).run Try.prog W = .ok (.map (some W.heap.size)) (W.alloc (.map #[] 0)) := fun _ => by kernel_rfl
  go_wp2_with fail
  have hb4' := Lib.hid (((Below.refl w3.heap.size w3).alloc (Nat.le_refl _) (.cells #[.slice A3 2 c3, .int .i64 most, .int .i64 0] 45)).alloc (by simp) (.map #[] 0))
  refine (ways12_any _).mono ?_
  rintro e w4 ⟨rfl, hb4⟩
  have hb4'' := Lib.hid hb4
  clear hb4
  have hmf : ∀ (fn : Go.Fn) (first cap : Array Value) (w : World), (Instr.makeFunc fn first cap).run Try.prog w = .ok (.func fn first cap) w := fun _ _ _ _ => rfl
  go_wp2_with (first | (refine wpList_store_last rfl rfl (.tmp 13) (.tmp 48) rfl (w4.heap.size + 2) (by simp) rfl (c' := waysA) rfl waysA_size rfl waysA_one ?_) | fail)
  clear hmf hmm r0 q0 i1
  change Code.wp _ _ _ _ (worldO w4 w3.heap.size (w3.heap.size + 1) w.heap.size)
  have hs3 : Hid (w3.heap.size + 2 ≤ w4.heap.size) := by have := hb4''.out.size; simp at this; exact this
  have hs2 : Hid (w.heap.size + 2 ≤ w3.heap.size) := by have := hb3'.out.size; unfold Hid; omega
  have hb24 := Lib.hid ((hb3'.out.trans (hb4'.out.mono hb3'.out.size)).trans (hb4''.out.mono (by have := hb3'.out.size; simp; omega)))
  have hbW := Lib.hid (hx2.out.bel.trans (hb24.out.mono hx2.out.bel.size))
  have hx4 := Lib.hid (hx2.out.step hb24.out)
  have hf4 : Hid (w4.frozen? ⟨w.heap.size + 1, 0, none⟩ = false) := (hb24.out.frozen (p := ⟨w.heap.size + 1, 0, none⟩) rz).trans hf2
  obtain ⟨_, _, e1, -, hNR, hnd⟩ := hv'.out
  injection e1 with e1 _ e3
  subst e1; subst e3
  obtain ⟨tb, to_, rfl, htb, hnd⟩ := hnd (by omega)
  have hWH := Lib.hid (worldO_H w w4 w3.heap.size (w3.heap.size + 1) hbW.out (by have := hs2.out; omega) (by omega) (by have := hs3.out; omega) htb hnd hx4.out.cells.2.1.1)
  have hMk : Hid (MkrAt (worldO w4 w3.heap.size (w3.heap.size + 1) w.heap.size) w3.heap.size most s012.1) := by
    have h1 : MkrAt (w3.alloc (.cells #[.slice A3 2 c3, .int .i64 most, .int .i64 0] 45)) w3.heap.size most s012.1 := ⟨_, heap_alloc_new _ _, hN3'.out.alloc _⟩
    exact ((h1.below ((Below.refl _ _).alloc (Nat.le_refl _) (.map #[] 0))).below hb4''.out).below (worldO_bel _ _ _ _)
  have hKn : Hid (KnAt (worldO w4 w3.heap.size (w3.heap.size + 1) w.heap.size) (w3.heap.size + 1) 0 s012.2) := by
    have h1 := KnAt.made (w3.alloc (.cells #[.slice A3 2 c3, .int .i64 most, .int .i64 0] 45))
    simp only [World.size_alloc] at h1
    exact (h1.below hb4''.out (by simp)).below (worldO_bel _ _ _ _) (by have := hs3.out; omega)
  have hsz := worldO_size w4 w3.heap.size (w3.heap.size + 1) w.heap.size
  have hbO := Lib.hid (worldO_bel w4 w3.heap.size (w3.heap.size + 1) w.heap.size)
  have hNR' := Lib.hid hNR
  generalize hgg : w3.heap.size = g at *
  generalize worldO w4 g (g + 1) w.heap.size = W0 at *
  have hsz' := Lib.hid hsz
  clear hb3' hb4' hb4'' hN3' hx2 hf2 rz qz hnd hNR hsz hgg
  go_loopw [7, 52] (fun z i wr => ∃ k : Nat, k ≤ j ∧ i = .int .i64 k ∧ Hid (OfI N most n R g (g + 1) W0 z k wr)) (fun _ i _ => j - (intOf i).toNat)
  case atStart => exact ⟨0, Nat.zero_le _, rfl, s012, 0, fun _ => 0, rfl, OwnI.nil _ _, hMk.out, hKn.out, Nat.zero_le _, inv_start n, fun i hi => absurd hi (Nat.not_lt_zero i), But.refl _ _ _⟩
  case round =>
  clear hMk hKn
  obtain ⟨k, hk, rfl, hI⟩ := hrel
  obtain ⟨s1, n1, X, hP1, hO1, hM1, hK1, hn1, hV1, hX1, hB1⟩ := hI.out
  have hP1' := Lib.hid hP1
  have hO1' := Lib.hid hO1
  have hM1' := Lib.hid hM1
  have hK1' := Lib.hid hK1
  have hV1' := Lib.hid hV1
  have hX1' := Lib.hid hX1
  have hB1' := Lib.hid hB1
  have hWr := Lib.hid (hWH.out.but hB1)
  have hbr := Lib.hid ((hbW.out.trans (hbO.out.mono hbW.out.size)).trans (hB1.belowOf (B' := w.heap.size) (by have := hsz'.out; have := hbW.out.size; omega) (fun x hx => by
    have := hs2.out
    rcases List.mem_cons.1 hx with hx | hx
    · omega
    · have := List.mem_singleton.1 hx; omega)))
  have c4 := hWr.out.c4
  have hgs : Hid (g < W0.heap.size ∧ g + 1 < W0.heap.size) := by have := hs3.out; have := hsz'.out; unfold Hid; omega
  clear hI hP1 hO1 hM1 hK1 hV1 hX1 hB1
  by_cases hlk : k < j
  · have i2 : decide ((k : Int) < (j : Int)) = true := decide_eq_true (by omega)
    obtain ⟨_, _, e1, _, hRR, hcu⟩ := hu'.out
    injection e1 with e1 _ e3
    subst e1; subst e3
    obtain ⟨ub, uo, rfl, hub, hcu⟩ := hcu (by omega)
    have rk := (hbr.out.cell (p := ⟨ub, uo + k, none⟩) hub).trans (hcu k hlk)
    have hrin := hin.out k hlk
    obtain ⟨r, hrr⟩ : ∃ r : Nat, R k = r := ⟨(R k).toNat, by omega⟩
    rw [hrr] at rk
    have hWk := Lib.hid (Walk_any N most _ _ _ _ _ _ _ _ _ _ n hch'.out hn hNR'.out hmo n r (by omega) (by omega) wr s1 n1 hWr.out hM1'.out hK1'.out hn1 hV1'.out)
    have hrt : Hid ((R k).toNat = r) := by unfold Hid; omega
    have hk0 : (0 : Int) ≤ (k : Int) := by omega
    have hkj : (k : Int) < (j : Int) := by omega
    clear hcu hRR hrin hrr
    go_wp2_with fail
    refine hWk.out.mono ?_
    rintro e w5 ⟨s2, x, n2, rfl, hWP, hM2, hK2, hn2, hV2, ⟨hmo2, x0, x1⟩, -, hB2⟩
    have hO2 := Lib.hid ((hO1'.out.but hB2 (fun y hy => by
      have := hgs.out
      rcases List.mem_cons.1 hy with hy | hy
      · omega
      · have := List.mem_singleton.1 hy; omega)))
    have hlen : ((List.range k).map X).length ≤ 1000000 := by simp; omega
    have hW05 : Hid (W0.heap.size ≤ w5.heap.size) := Nat.le_trans hB1'.out.size hB2.size
    have hO3 : Hid (OwnI (w5.alloc (.cells #[.int .i64 x] 3)) W0.heap.size _ ((List.range k).map X)) := hO2.out.but (But.of ((Below.refl _ _).alloc (Nat.le_refl _) _) []) (fun y hy => by cases hy)
    have hG5 : (w5.alloc (.cells #[.int .i64 x] 3)).cell? ⟨w5.heap.size, 0, none⟩ = some (.int .i64 x) := by simp
    have hM3 := Lib.hid (hM2.below ((Below.refl w5.heap.size w5).alloc (Nat.le_refl _) (.cells #[.int .i64 x] 3)))
    have hK3 := Lib.hid (hK2.below ((Below.refl w5.heap.size w5).alloc (Nat.le_refl _) (.cells #[.int .i64 x] 3)) hK2.lt)
    have hB3 := Lib.hid ((hB1'.out.next hB2 hB1'.out.size).next (But.of ((Below.refl w5.heap.size w5).alloc (Nat.le_refl _) (.cells #[.int .i64 x] 3)) [g, g + 1]) (Nat.le_trans hB1'.out.size hB2.size))
    have hP2 := Lib.hid (hP1'.out.more (by rw [hrt.out]; exact hWP))
    have hV2' := Lib.hid hV2
    have hX2 : Hid (∀ i, i < k + 1 → 0 ≤ (if i = k then x else X i) ∧ (if i = k then x else X i) < s2.1.n) := fun i hi => by
      by_cases e : i = k
      · rw [if_pos e]; exact ⟨x0, x1⟩
      · rw [if_neg e]
        have := hX1'.out i (by omega)
        omega
    have hb5s : Hid (W0.heap.size ≤ (w5.alloc (.cells #[.int .i64 x] 3)).heap.size) := by have := hW05.out; unfold Hid; simp; omega
    generalize hw6 : w5.alloc (.cells #[.int .i64 x] 3) = w6 at *
    clear hWP hM2 hK2 hV2 hB2 hWk hO2 c4 rk
    go_wp2_with (at_builtin; refine wpList_appI rfl _ _ rfl W0.heap.size _ _ rfl hO3.out w5.heap.size 1 rfl x hG5 hlen hb5s.out ?_)
    intro v' w7 hO7 hg7
    have hI7 : Hid (OfI N most n R g (g + 1) W0 v' (k + 1) w7) := ⟨s2, n2, fun i => if i = k then x else X i, hP2.out, by rw [range_more]; exact hO7, hM3.out.grown hg7 hO3.out hgs.out.1, hK3.out.grown hg7 hO3.out hgs.out.2, hn2, hV2'.out, hX2.out, hB3.out.grown hg7 hO3.out (Nat.le_refl _) hb5s.out⟩
    clear hO7 hg7 hw6
    go_wp2_with fail
    go_roundw
    case rel => exact ⟨k + 1, by omega, by go_num, hI7.out⟩
    case measure => simp [intOf]; omega
  · have i2 : decide ((k : Int) < (j : Int)) = false := decide_eq_false (by omega)
    obtain rfl : k = j := by omega
    have c2 := hWr.out.c2
    have hDn := Lib.hid (MkDone_any g most s1.1 0 wr hM1'.out)
    have hmf : ∀ (fn : Go.Fn) (first cap : Array Value) (w : World), (Instr.makeFunc fn first cap).run Try.prog w = .ok (.func fn first cap) w := fun _ _ _ _ => rfl
    have hnm : w.heap.size + 1 ∉ [g, g + 1] := fun hx => by
      have := hs2.out
      rcases List.mem_cons.1 hx with hx | hx
      · omega
      · have := List.mem_singleton.1 hx; omega
    have hlt4 : w.heap.size + 1 < w4.heap.size := by have := hs2.out; have := hs3.out; omega
    have hlt0 : w.heap.size + 1 < W0.heap.size := by have := hsz'.out; omega
    have cB0 : wr.cell? ⟨w.heap.size + 1, 0, none⟩ = some (.slice none 0 0) := (hB1'.out.cell (p := ⟨w.heap.size + 1, 0, none⟩) hlt0 hnm).trans ((hbO.out.cell (p := ⟨w.heap.size + 1, 0, none⟩) hlt4).trans hx4.out.cells.1.1)
    have fB0 : wr.frozen? ⟨w.heap.size + 1, 0, none⟩ = false := (World.frozen?_of_block (w := W0) (a := ⟨w.heap.size + 1, 0, none⟩) (hB1'.out.block _ hlt0 hnm)).trans ((hbO.out.frozen (p := ⟨w.heap.size + 1, 0, none⟩) hlt4).trans hf4.out)
    have hwrs : w.heap.size + 1 < wr.heap.size := Nat.lt_of_lt_of_le hlt0 hB1'.out.size
    have cB0' := Lib.hid cB0
    have fB0' := Lib.hid fB0
    clear hnm hlt4 cB0 fB0 c4
    go_wp2_with fail
    refine hDn.out.mono ?_
    rintro e w6 ⟨v6, rfl, hok, hno, hb6⟩
    have cB : w6.cell? ⟨w.heap.size + 1, 0, none⟩ = some (.slice none 0 0) := (hb6.cell (p := ⟨w.heap.size + 1, 0, none⟩) hwrs).trans cB0'.out
    have fB : w6.frozen? ⟨w.heap.size + 1, 0, none⟩ = false := (hb6.frozen (p := ⟨w.heap.size + 1, 0, none⟩) hwrs).trans fB0'.out
    have hb6' := Lib.hid hb6
    have hok' := Lib.hid hok
    have hno' := Lib.hid hno
    have hcB := Lib.hid cB
    have hbel := Lib.hid (hbr.out.trans (hb6.mono hbr.out.size))
    clear hok hno hb6 hDn c2
    by_cases he : s1.1.e = 0
    · have hN6 := Lib.hid (hok'.out he)
      have hR := Lib.hid (Of12.ok hch'.out hin.out hfit'.out s1 X hP1'.out he hV1'.out hX1'.out)
      have hI6 := Lib.hid ((hO1'.out.1.below hb6'.out (Nat.le_refl _)))
      obtain ⟨A6, c6, rfl, -, -, -⟩ := hok'.out he
      have d3 : (s1.1.e != 0) = false := by rw [he]; rfl
      have hN7 := Lib.hid (hN6.out.setBox cB (fun _ _ h => by cases h) (.slice A6 s1.1.n c6))
      have c7 : (w6.setCell ⟨w.heap.size + 1, 0, none⟩ (.slice A6 s1.1.n c6)).cell? ⟨w.heap.size + 1, 0, none⟩ = some (.slice A6 s1.1.n c6) := World.cell?_setCell_same' _ _ _ (by rw [cB]; rfl)
      have f7 : (w6.setCell ⟨w.heap.size + 1, 0, none⟩ (.slice A6 s1.1.n c6)).frozen? ⟨w.heap.size + 1, 0, none⟩ = false := by rw [World.frozen?_setCell]; exact fB
      have hI7 := Lib.hid ((hI6.out.setCell (a := ⟨w.heap.size + 1, 0, none⟩) hlt0 (.slice A6 s1.1.n c6)).setCell (a := ⟨w.heap.size + 1, 0, none⟩) hlt0 (.slice A6 s1.1.n c6))
      have hb7 := Lib.hid ((hbel.out.setCell (p := ⟨w.heap.size + 1, 0, none⟩) (by show w.heap.size ≤ w.heap.size + 1; omega) (.slice A6 s1.1.n c6)).setCell (p := ⟨w.heap.size + 1, 0, none⟩) (by show w.heap.size ≤ w.heap.size + 1; omega) (.slice A6 s1.1.n c6))
      generalize hW7 : w6.setCell ⟨w.heap.size + 1, 0, none⟩ (.slice A6 s1.1.n c6) = W7 at *
      have hc7 := Lib.hid c7
      have he' := Lib.hid he
      have hXR : ∀ i, i < k → R64 (X i) := fun i hi => by
        have := hX1'.out i hi
        have := hV1'.out.bound hn
        unfold R64; omega
      have hfi := Lib.hid (hI7.out.intsF (by omega) hXR)
      clear he hXR
      go_wp2_with fail
      refine bodyPost_ret (results_of12 (u := 7) (x := 8) rfl _ _ (w.heap.size + 1) (.slice A6 s1.1.n c6) _ (.int .i64 0) rfl (World.cell?_setCell_same' _ _ _ (by rw [hc7.out]; rfl)) rfl rfl) rfl ⟨_, _, s1.1.n, s1.1.N, k, X, 0, rfl, hR.out, hN7.out.setBox hc7.out (fun _ _ h => by cases h) _, hfi.out, hb7.out⟩
    · have hv6 := hno'.out he
      subst hv6
      have d3 : (s1.1.e != 0) = true := by simpa using he
      have hR := Lib.hid (Of12.no hch'.out hin.out hfit'.out s1 X hP1'.out he N R)
      have c7 : (w6.setCell ⟨w.heap.size + 1, 0, none⟩ (.slice none 0 0)).cell? ⟨w.heap.size + 1, 0, none⟩ = some (.slice none 0 0) := World.cell?_setCell_same' _ _ _ (by rw [cB]; rfl)
      have f7 : (w6.setCell ⟨w.heap.size + 1, 0, none⟩ (.slice none 0 0)).frozen? ⟨w.heap.size + 1, 0, none⟩ = false := by rw [World.frozen?_setCell]; exact fB
      have hb7 := Lib.hid ((hbel.out.setCell (p := ⟨w.heap.size + 1, 0, none⟩) (by show w.heap.size ≤ w.heap.size + 1; omega) (.slice none 0 0)).setCell (p := ⟨w.heap.size + 1, 0, none⟩) (by show w.heap.size ≤ w.heap.size + 1; omega) (.slice none 0 0))
      generalize hW7 : w6.setCell ⟨w.heap.size + 1, 0, none⟩ (.slice none 0 0) = W7 at *
      have hc7 := Lib.hid c7
      clear he
      go_wp2_with fail
      refine bodyPost_ret (results_of12 rfl _ _ (w.heap.size + 1) (.slice none 0 0) (.slice none 0 0) (.int .i64 s1.1.e) rfl (World.cell?_setCell_same' _ _ _ (by rw [hc7.out]; rfl)) rfl rfl) rfl ⟨_, _, 0, N, 0, R, s1.1.e, rfl, hR.out, NdsAt.nil _ _, IntsAt.nilI _ _, hb7.out⟩
end Go.Proofs.Ytecmoahadckomaa

namespace Go.Proofs.Ytecmoahadckomaa
open Go.RowKit

theorem negS_iff {m : Nat} {f : Nat → Int} : negS m f = true ↔ ∃ i, i < m ∧ f i < 0 := by
  constructor
  · intro h
    refine Classical.byContradiction fun hno => ?_
    rw [neg_no (fun i hi => by
      by_cases h0 : 0 ≤ f i
      · exact h0
      · exact absurd ⟨i, hi, by omega⟩ hno)] at h
    cases h
  · rintro ⟨i, hi, h⟩; exact neg_yes hi h
theorem opT_congr {op : Int} {m : Nat} {f g : Nat → Int} (h : ∀ i, i < m → f i = g i) : opT op m f = opT op m g := by
  have hal : ∀ (k : Nat) (p q : Nat → Int), (∀ i, i < k → p i = q i) → alikeB k p = alikeB k q := fun k p q hpq => by
    rw [Bool.eq_iff_iff, alike_iff, alike_iff]
    constructor
    · intro hh i hi; rw [← hpq i hi, ← hpq 0 (by omega)]; exact hh i hi
    · intro hh i hi; rw [hpq i hi, hpq 0 (by omega)]; exact hh i hi
  have hng : negS m f = negS m g := by
    rw [Bool.eq_iff_iff, negS_iff, negS_iff]
    constructor
    · rintro ⟨i, hi, hh⟩; exact ⟨i, hi, by rw [← h i hi]; exact hh⟩
    · rintro ⟨i, hi, hh⟩; exact ⟨i, hi, by rw [h i hi]; exact hh⟩
  have htl : ∀ (k : Nat) (p q : Nat → Int), (∀ i, i < k → p i = q i) → (op ≠ 7 ∨ 0 < k) → tailT op k p = tailT op k q := fun k p q hpq h7 => by
    unfold tailT
    rw [hal k p q hpq]
    by_cases hk : 0 < k
    · rw [hpq 0 hk]
    · have hf := tyR_free (op := op) (h7.resolve_right hk)
      simp [hk, hf]
  by_cases h70 : op = 7
  · subst h70
    rw [opT7, opT7, hng]
    by_cases hm : m = 3
    · subst hm
      rw [h 0 (by omega), h 1 (by omega), h 2 (by omega)]
    · simp [hm]
  unfold opT
  by_cases hm : (m : Int) = tyN op
  · by_cases h7 : op = 7
    · exact absurd h7 h70
    · rw [hng, htl m f g h (.inl h7)]
      simp [h7]
  · have e : (m : Int) ≠ tyN op := hm
    simp [e]
/-- A base: its own base, with number 0. -/
def BaseP (n : Nat) (N : Nat → Nd) (x : Int) : Prop := ∃ b : Nat, x = b ∧ b < n ∧ (N b).sort = 1 ∧ OfR N b 0 (some (b, 0))
structure NodeOk (n : Nat) (N : Nat → Nd) (e : Nd) : Prop where
  add : e.op = 11 → e.num ≠ 0 ∧ (N e.a0.toNat).op ≠ 11 ∧ (N e.a0.toNat).op ≠ 10
  diff : e.op = 12 → BaseP n N e.a0 ∧ BaseP n N e.a1 ∧ e.a0 ≠ e.a1
  kinds : e.op ≠ 4 ∧ e.op ≠ 5 ∧ e.op ≠ 8 ∧ e.op ≠ 9
  neg : e.op = 1 → (N e.a0.toNat).op ≠ 1
  eq : e.op = 6 → (N e.a0.toNat).sort ≠ 1 ∧ ((N e.a0.toNat).sort = 0 ∨ e.a0 ≠ e.a1)
  fit : fitN N e = true
structure CoreP (n : Nat) (N : Nat → Nd) : Prop where
  chk : CheckP n N
  ok : ∀ i, i < n → NodeOk n N (N i)
theorem fitN_congr {n : Nat} {N M : Nat → Nd} {e : Nd} {at_ : Int} (h : StandsP e at_) (ha : at_ ≤ n) (hn : 0 < n) (hM : ∀ i, i < n → M i = N i) : fitN M e = fitN N e := by
  have : sortsN M e = sortsN N e := by
    funext i
    unfold sortsN
    rw [hM _ (arg_ltE h ha hn i)]
  unfold fitN
  rw [this]
theorem BaseP.more {n m : Nat} {N M : Nat → Nd} {x : Int} (hc : CheckP n N) (h : BaseP n N x) (hm : n ≤ m) (hM : ∀ i, i < n → M i = N i) : BaseP m M x := by
  obtain ⟨b, rfl, hb, hs, ho⟩ := h
  exact ⟨b, rfl, by omega, by rw [hM b hb]; exact hs, ho.congr hc hb hM⟩
theorem NodeOk.more {n m : Nat} {N M : Nat → Nd} {e : Nd} {at_ : Int} (hc : CheckP n N) (hs : StandsP e at_) (ha : at_ ≤ n) (h : NodeOk n N e) (hm : n ≤ m) (hM : ∀ i, i < n → M i = N i) : NodeOk m M e := by
  have h2 := hc.two
  have e0 : M e.a0.toNat = N e.a0.toNat := hM _ (arg_ltE hs ha (by omega) 0)
  refine ⟨fun o => ?_, fun o => ?_, h.kinds, fun o => ?_, fun o => ?_, ?_⟩
  · rw [e0]; exact h.add o
  · obtain ⟨h1, h3, h4⟩ := h.diff o
    exact ⟨h1.more hc hm hM, h3.more hc hm hM, h4⟩
  · rw [e0]; exact h.neg o
  · rw [e0]; exact h.eq o
  · rw [fitN_congr hs ha (by omega) hM]; exact h.fit
theorem CoreP.put {n : Nat} {N : Nat → Nd} {e : Nd} {most : Int} {m : Nat} {M : Nat → Nd} {x : Int} (h : CoreP n N) (hn : StandsP e n → NodeOk n N e) (hp : PutR n N e most m M x 0) : CoreP m M ∧ M x.toNat = e := by
  obtain ⟨hc, hs, ⟨i, hi, hie, rfl, rfl, rfl⟩ | ⟨hne, _, rfl, rfl, rfl⟩⟩ := hp.ok
  · exact ⟨h, by rw [Int.toNat_natCast]; exact hie⟩
  · refine ⟨⟨hc.ext hs hne, fun i hi => ?_⟩, by rw [Int.toNat_natCast]; exact extN_at _ _ _⟩
    by_cases hin : i < n
    · rw [extN_lt hin]
      exact (h.ok i hin).more hc (hc.all i hin) (by omega) (by omega) (fun k hk => extN_lt hk)
    · obtain rfl : i = n := by omega
      rw [extN_at]
      exact (hn hs).more hc hs (Int.le_refl _) (by omega) (fun k hk => extN_lt hk)
/-- All went well: the table is core, the image is of the sort so. -/
def Gd (s' : CSt) (x so : Int) : Prop := s'.e = 0 → CoreP s'.n s'.N ∧ (s'.N x.toNat).sort = so
theorem kept_gd {s : CSt} {m : Nat} {M : Nat → Nd} {x er so : Int} (h : er = 0 → CoreP m M ∧ (M x.toNat).sort = so) : Gd (keptS s m M er) x so := by
  intro he
  by_cases h0 : er = 0
  · subst h0; rw [keptS_ok]; exact h rfl
  · rw [keptS_no h0] at he; exact absurd he h0
theorem NodeR.gd {most : Int} {s s' : CSt} {nd : Nd} {x : Int} (hc : CoreP s.n s.N) (hn : StandsP nd s.n → NodeOk s.n s.N nd) (h : NodeR most s nd s' x) : Gd s' x nd.sort := by
  cases h with
  | err h => exact fun h0 => absurd h0 h
  | put h m M x er hp =>
    refine kept_gd fun he => ?_
    subst he
    obtain ⟨h1, h2⟩ := hc.put hn hp
    exact ⟨h1, by rw [h2]⟩
theorem opNd_ok {s : CSt} {op : Int} {k : Nat} {A : Nat → Int} (hk : 1 ≤ k ∧ k ≤ 3) (ht : (opT op k (sortsA s A)).2 = 0) (h4 : op ≠ 4 ∧ op ≠ 5 ∧ op ≠ 8 ∧ op ≠ 9 ∧ op ≠ 11 ∧ op ≠ 12) (h1 : op = 1 → (s.N (A 0).toNat).op ≠ 1)
    (h6 : op = 6 → (s.N (A 0).toNat).sort ≠ 1 ∧ ((s.N (A 0).toNat).sort = 0 ∨ A 0 ≠ A 1)) : NodeOk s.n s.N (opNd op k A (opT op k (sortsA s A)).1) := by
  have e0 : (opNd op k A (opT op k (sortsA s A)).1).a0 = A 0 := if_pos (by omega)
  refine ⟨fun o => absurd o h4.2.2.2.2.1, fun o => absurd o h4.2.2.2.2.2, ⟨h4.1, h4.2.1, h4.2.2.1, h4.2.2.2.1⟩, fun o => by rw [e0]; exact h1 o, fun o => ?_, ?_⟩
  · rw [e0]
    obtain ⟨h, hh⟩ := h6 o
    refine ⟨h, hh.imp id fun hne => ?_⟩
    have o : op = 6 := o
    have hk2 : k = 2 := by
      subst o
      obtain ⟨hm, _⟩ := opT_ok (op := 6) (m := k) (F := sortsA s A) (s := (opT 6 k (sortsA s A)).1) (Prod.ext rfl ht) (by decide)
      have : tyN 6 = 2 := by decide
      omega
    subst hk2
    exact hne
  · unfold fitN
    by_cases h13 : (opNd op k A (opT op k (sortsA s A)).1).op = 13
    · rw [if_pos h13]
    · rw [if_neg h13]
      have hsz : (opNd op k A (opT op k (sortsA s A)).1).len.toNat = k := by show ((k : Int)).toNat = k; simp
      have hc : opT op k (sortsN s.N (opNd op k A (opT op k (sortsA s A)).1)) = opT op k (sortsA s A) := opT_congr fun i hi => by
        have : i = 0 ∨ i = 1 ∨ i = 2 := by omega
        unfold sortsN sortsA
        rcases this with rfl | rfl | rfl
        · show (s.N (if 0 < k then A 0 else 0).toNat).sort = _; rw [if_pos hi]
        · show (s.N (if 1 < k then A 1 else 0).toNat).sort = _; rw [if_pos hi]
        · show (s.N (if 2 < k then A 2 else 0).toNat).sort = _; rw [if_pos hi]
      refine decide_eq_true ?_
      rw [hsz]
      show opT op k _ = _
      rw [hc]
      exact Prod.ext rfl ht
theorem PutOpR.gd {most : Int} {s s' : CSt} {op : Int} {k : Nat} {A : Nat → Int} {x : Int} (hc : CoreP s.n s.N) (hk : 1 ≤ k ∧ k ≤ 3) (h4 : op ≠ 4 ∧ op ≠ 5 ∧ op ≠ 8 ∧ op ≠ 9 ∧ op ≠ 11 ∧ op ≠ 12) (h1 : s.e = 0 → op = 1 → (s.N (A 0).toNat).op ≠ 1)
    (h6 : s.e = 0 → op = 6 → (s.N (A 0).toNat).sort ≠ 1 ∧ ((s.N (A 0).toNat).sort = 0 ∨ A 0 ≠ A 1)) (h : PutOpR most s op k A s' x) : Gd s' x (opT op k (sortsA s A)).1 := by
  cases h with
  | err h => exact fun h0 => absurd h0 h
  | sort h hs => exact fun h0 => absurd (show (33 : Int) = 0 from h0) (by decide)
  | put h hs s' x hp => exact hp.gd hc (fun _ => opNd_ok hk hs h4 (h1 h) (h6 h))
end Go.Proofs.Ytecmoahadckomaa
