/- typing.Make. -/
import Derived.Test.YthkbekfdjfmmbaaZTyMake
import Derived.Laws.CopyOwn
namespace Go.Proofs.Ythkbekfdjfmmbaa
open Go.RowKit
set_option maxRecDepth 100000

theorem setRow_top (W : World) (old cs : Array Value) (t : TypeId) : (W.alloc (.cells old t)).setRow W.heap.size cs = W.alloc (.cells cs t) := by
  unfold World.setRow World.alloc
  congr 1
  apply Array.ext_getElem?
  intro i
  show ((W.heap.push (Obj.cells old t)).modify W.heap.size _)[i]? = (W.heap.push (Obj.cells cs t))[i]?
  rw [Array.getElem?_modify, Array.getElem?_push, Array.getElem?_push]
  by_cases e : W.heap.size = i
  · subst e; simp
  · rw [if_neg e, if_neg (fun h => e h.symm), if_neg (fun h => e h.symm)]
def padA (m : Nat) (A : Nat → Int) (i : Nat) : Int := if i < m then A i else 0
theorem copy_args (W : World) (U : Option Addr) (m cu : Nat) (A : Nat → Int) (op len f k : Int) (hu : IntsAt W (.slice U m cu) m A) (hm : m ≤ 3) (ty : TypeId) :
    (Builtin.copy_ #[52, 52] ty #[.slice (some ⟨W.heap.size, 2, none⟩) 3 3, .slice U m cu]).run Try.prog (W.alloc (.cells #[.int .i8 op, .int .i8 len, .int .i64 0, .int .i64 0, .int .i64 0, .int .i64 0, .int .i64 f, .int .i64 k] 62)) =
      .ok (.int .i64 m) (W.alloc (.cells #[.int .i8 op, .int .i8 len, .int .i64 (padA m A 0), .int .i64 (padA m A 1), .int .i64 (padA m A 2), .int .i64 0, .int .i64 f, .int .i64 k] 62)) := by
  have hsz : (Try.prog.info? 3).map (·.size) = some 1 := by kernel_rfl
  by_cases h0 : m = 0
  · subst h0
    exact run_copy_none _ _ _ ty 3 _ _ _ _ _ _ Try.underlying52 hsz rfl
  · obtain ⟨U', c', e, _, _, hc⟩ := hu
    injection e with e1 _ e3
    subst e1; subst e3
    obtain ⟨b, o, rfl, hb, hc⟩ := hc (by omega)
    have h := run_copy_row (P := Try.prog) (W.alloc (.cells #[.int .i8 op, .int .i8 len, .int .i64 0, .int .i64 0, .int .i64 0, .int .i64 0, .int .i64 f, .int .i64 k] 62)) 52 52 ty 3 W.heap.size 2 3 3 ⟨b, o, none⟩ m cu
      #[.int .i8 op, .int .i8 len, .int .i64 0, .int .i64 0, .int .i64 0, .int .i64 0, .int .i64 f, .int .i64 k] 62 ((List.range m).map fun i => .int .i64 (A i)) Try.underlying52 hsz (by show (W.heap.push _)[W.heap.size]? = _; simp) (by rw [List.length_map, List.length_range]; exact (Nat.min_eq_left hm).symm) ?_ (by simp; omega) ?_
    · rw [h, setRow_top]
      have : m = 1 ∨ m = 2 ∨ m = 3 := by omega
      rcases this with rfl | rfl | rfl <;> rfl
    · intro j v hj
      have hjm : j < m := by
        have := (List.getElem?_eq_some_iff.1 hj).1
        simpa using this
      simp [hjm] at hj
      subst hj
      have e1 : ((⟨b, o, none⟩ : Addr).add j) = ⟨b, o + j, none⟩ := by
        unfold Addr.add; split
        · next e => rw [e, Nat.add_zero]
        · rfl
      rw [e1]
      exact (((Below.refl W.heap.size W).alloc (Nat.le_refl _) _).cell (p := ⟨b, o + j, none⟩) hb).trans (hc j hjm)
    · intro v hv
      obtain ⟨i, _, rfl⟩ := List.mem_map.1 hv
      rfl
/-- The node that Make tries. -/
def mkNd (op : Int) (m : Nat) (A : Nat → Int) (f k : Int) : Nd := ⟨op, m, padA m A 0, padA m A 1, padA m A 2, 0, f, k⟩
def Nd.sorted (e : Nd) (s : Int) : Nd := { e with sort := s }
noncomputable def makeT (g : Sg) (n : Nat) (N : Nat → Nd) (op : Int) (m : Nat) (A : Nat → Int) (f k : Int) : Nd × Int :=
  if 3 < m then (nd0, 2)
  else if mayT g n N (mkNd op m A f k) = false then (nd0, 2)
  else if (nodeT g N (mkNd op m A f k)).2 = 0 then ((mkNd op m A f k).sorted (nodeT g N (mkNd op m A f k)).1, 0) else (nd0, 33)
theorem mkNd_R {op : Int} {m : Nat} {A : Nat → Int} {f k : Int} (h8 : R8 op) (hm : m ≤ 3) (hA : ∀ i, i < m → R64 (A i)) (hf : R64 f) (hk : R64 k) : NdR (mkNd op m A f k) := by
  have hp : ∀ i, R64 (padA m A i) := fun i => by
    unfold padA
    by_cases h : i < m
    · rw [if_pos h]; exact hA i h
    · rw [if_neg h]; exact ⟨by decide, by decide⟩
  exact ⟨h8, ⟨by show (-128 : Int) ≤ m; omega, by show (m : Int) ≤ 127; omega⟩, hp 0, hp 1, hp 2, ⟨by show (-9223372036854775808 : Int) ≤ 0; decide, by show (0 : Int) ≤ 9223372036854775807; decide⟩, hf, hk⟩
theorem mkNd_arg {op : Int} {m : Nat} {A : Nat → Int} {f k : Int} {i : Nat} (hi : i < m) (hm : m ≤ 3) : (mkNd op m A f k).arg i = A i := by
  have : i = 0 ∨ i = 1 ∨ i = 2 := by omega
  rcases this with rfl | rfl | rfl <;> exact if_pos hi
theorem make_out {g : Sg} {n : Nat} {N : Nat → Nd} {op : Int} {m : Nat} {A : Nat → Int} {f k : Int} {i : Nat} (hi : i < m) (hA : A i < 0 ∨ (n : Int) ≤ A i) : makeT g n N op m A f k = (nd0, 2) := by
  unfold makeT
  by_cases h3 : 3 < m
  · rw [if_pos h3]
  · rw [if_neg h3]
    have hno : ¬ StandsP (mkNd op m A f k) n := fun hs => by
      have ha := mkNd_arg (op := op) (f := f) (k := k) (A := A) hi (by omega : m ≤ 3)
      have hl : ((i : Nat) : Int) < (mkNd op m A f k).len := by show (i : Int) < (m : Int); omega
      have : i = 0 ∨ i = 1 ∨ i = 2 := by omega
      rcases this with rfl | rfl | rfl
      · have := hs.arg0.1 hl; omega
      · have := hs.arg1.1 hl; omega
      · have := hs.arg2.1 hl; omega
    rw [if_pos (by unfold mayT; rw [stands_no hno, Bool.and_false, Bool.and_false])]
end Go.Proofs.Ythkbekfdjfmmbaa

namespace Go.Proofs.Ythkbekfdjfmmbaa
open Go.RowKit
set_option maxRecDepth 100000

theorem nd_size : (Try.prog.info? 62).map (·.size) = some 8 := by kernel_rfl
theorem results_nd2 {fn : Func} {p u : Tmp} (h : fn.results = #[.cell p 62, .tmp u]) (tmps : Array Value) (w : World) (g : Nat) (e : Nd)
    (hp : tmps.getD p undef = .pointer (some ⟨g, 0, none⟩)) (hc : w.heap[g]? = some (.cells (ndC e).toArray 62 (0, 0))) : (results fn tmps).run Try.prog w = .ok (.tuple #[ndV e, tmps.getD u undef]) w := by
  have hp' : tmps[p]?.getD undef = .pointer (some ⟨g, 0, none⟩) := by simpa using hp
  have hl := run_loadVar_row (P := Try.prog) w g 62 62 (ndC e).toArray (0, 0) _ hc Try.underlying62 rfl nd_size
  simp [results, h, hp', asAddr, hl, Result.andThen]
  rfl
/-- Make's result lies at g. -/
def ResAt (x : World) (g : Nat) (e : Nd) : Prop := x.heap[g]? = some (.cells (ndC e).toArray 62 (0, 0))
theorem ResAt.step {x y : World} {g : Nat} {e : Nd} (h : ResAt x g e) (hb : Below x.heap.size x y) : ResAt y g e := (hb.block g (Array.getElem?_eq_some_iff.1 h).1).trans h
theorem ResAt.set {x : World} {g : Nat} {e : Nd} (h : ResAt x g e) (f : Nd) : ResAt (x.setRow g (ndC f).toArray) g f := setRow_heap x g _ _ _ _ h
theorem ResAt.alloc {x : World} {g : Nat} {e : Nd} (h : ResAt x g e) (o : Obj) : ResAt (x.alloc o) g e := h.step ((Below.refl _ _).alloc (Nat.le_refl _) _)
theorem ResAt.cells {x : World} {g : Nat} {e : Nd} (h : ResAt x g e) : x.cell? ⟨g, 0, none⟩ = some (.int .i8 e.op) ∧ x.cell? ⟨g, 1, none⟩ = some (.int .i8 e.len) ∧ x.cell? ⟨g, 2, none⟩ = some (.int .i64 e.a0) ∧ x.cell? ⟨g, 3, none⟩ = some (.int .i64 e.a1) ∧ x.cell? ⟨g, 4, none⟩ = some (.int .i64 e.a2)
    ∧ x.cell? ⟨g, 5, none⟩ = some (.int .i64 e.sort) ∧ x.cell? ⟨g, 6, none⟩ = some (.int .i64 e.fn) ∧ x.cell? ⟨g, 7, none⟩ = some (.int .i64 e.num) ∧ x.frozen? ⟨g, 5, none⟩ = false := by
  have k := fun j => cell_of_row x g j _ _ _ h
  exact ⟨k 0, k 1, k 2, k 3, k 4, k 5, k 6, k 7, frozen_of_row x g 5 _ _ h⟩
theorem nd_all (e : Nd) : (ndC e).toArray.all (·.oneCell') = true := by
  rw [Array.all_eq_true_iff_forall_mem]
  intro v hv
  exact ndC_one e v (by simpa using hv)
theorem wpList_storeNd {P : Program} (hP : P = Try.prog) {ops : Array Oper} {rest : List Oper} {o : Oper} {a : Act} {w : World} {Q : Exit → Act → World → Prop} (hgd : o.guard = none) (x y : Operand) (ho : o.op = .store 62 x y)
    (g : Nat) (hx : a.eval x = .pointer (some ⟨g, 0, none⟩)) (e0 : Nd) (hr : ResAt w g e0) (e : Nd) (hy : a.eval y = ndV e)
    (h : wpList P ops Q rest (a.put o.dst undef) (w.setRow g (ndC e).toArray)) : wpList P ops Q (o :: rest) a w := by
  subst hP
  exact wpList_store_row hgd 62 x y ho g (ndC e).toArray hx hy 62 _ hr nd_size rfl (nd_all e) h
def MakeP (r : Nd × Int) (w : World) (z : Ending) (w' : World) : Prop := z = .returned (.tuple #[ndV r.1, .int .i64 r.2]) ∧ Below w.heap.size w w'
set_option maxHeartbeats 8000000 in
theorem TMake_any (sv fv mv tv av : Value) (g : Sg) (n : Nat) (N : Nat → Nd) (op : Int) (m : Nat) (A : Nat → Int) (f k : Int) (w : World) (hG : SgAt w sv fv mv g) (hf : FewG g) (hv : NdsAt w tv n N) (hn : n ≤ 999999) (h8 : R8 op) (ha : IntsAt w av m A) (hfr : R64 f) (hkr : R64 k) :
    Calls Try.prog 31 #[.agg #[sv, fv, mv], .agg #[tv], .int .i8 op, av, .int .i64 f, .int .i64 k] w (MakeP (makeT g n N op m A f k) w) := by
  have hG' := Lib.hid hG
  have hf' := Lib.hid hf
  obtain ⟨SA, c, rfl, -, -⟩ := hG.1
  obtain ⟨FA, fc, rfl, -, -⟩ := hG.2.1
  obtain ⟨MA, mc, rfl, -, -⟩ := hG.2.2
  have hv' := Lib.hid hv
  have ha' := Lib.hid ha
  obtain ⟨TA, tc, rfl, hcap, _, _⟩ := hv
  obtain ⟨U, cu, rfl, hm63, hRa, hcu⟩ := ha
  have hcu' := Lib.hid hcu
  have hx0 := Lib.hid ((toK_bx w (.slice SA g.ns c) (.slice FA g.nf fc) (.slice MA g.nm mc) (.slice TA n tc)).skip (.cells (ndC nd0).toArray 62))
  have hr0 : Hid (ResAt (((w.alloc (.cells #[.slice SA g.ns c, .slice FA g.nf fc, .slice MA g.nm mc] 26)).alloc (.cells #[.slice TA n tc] 60)).alloc (.cells (ndC nd0).toArray 62)) (w.heap.size + 2) nd0) := by
    have := heap_alloc_new ((w.alloc (.cells #[.slice SA g.ns c, .slice FA g.nf fc, .slice MA g.nm mc] 26)).alloc (.cells #[.slice TA n tc] 60)) (.cells (ndC nd0).toArray 62)
    simp only [World.size_alloc] at this
    exact this
  have hRm : Hid (makeT g n N op m A f k = if 3 < m then (nd0, 2) else if mayT g n N (mkNd op m A f k) = false then (nd0, 2) else if (nodeT g N (mkNd op m A f k)).2 = 0 then ((mkNd op m A f k).sorted (nodeT g N (mkNd op m A f k)).1, 0) else (nd0, 33)) := rfl
  have hout := Lib.hid fun i (hi : i < m) h => make_out (g := g) (n := n) (N := N) (op := op) (m := m) (A := A) (f := f) (k := k) (i := i) hi h
  clear hG hf hcu
  go_enter Try.func31, Try.ntmps31
  by_cases h3 : 3 < m
  · have d3 : decide ((3 : Int) < (m : Int)) = true := decide_eq_true (by omega)
    have hR : Hid (makeT g n N op m A f k = (nd0, 2)) := by unfold Hid; rw [hRm.out, if_pos h3]
    clear h3
    go_wp2_with (refine wpList_storeNd rfl rfl _ _ rfl (w.heap.size + 2) rfl _ hr0.out nd0 rfl ?_)
    exact bodyPost_ret (results_nd2 rfl _ _ (w.heap.size + 2) nd0 rfl (hr0.out.set nd0)) rfl ⟨by rw [hR.out]; rfl, below_setRow hx0.out.bel (by omega) _⟩
  · have d3 : decide ((3 : Int) < (m : Int)) = false := decide_eq_false (by omega)
    have hm3 : m ≤ 3 := by omega
    have hR : Hid (makeT g n N op m A f k = if mayT g n N (mkNd op m A f k) = false then (nd0, 2) else if (nodeT g N (mkNd op m A f k)).2 = 0 then ((mkNd op m A f k).sorted (nodeT g N (mkNd op m A f k)).1, 0) else (nd0, 33)) := by unfold Hid; rw [hRm.out, if_neg h3]
    have hw8 : IntKind.i8.wrap (m : Int) = m := by unfold IntKind.wrap; simp [IntKind.bits, IntKind.signed]; omega
    have hal : Try.prog.arrayLen 27 = 3 := by kernel_rfl
    have hXR := Lib.hid (mkNd_R (op := op) (m := m) (A := A) h8 hm3 hRa hfr hkr)
    have hcp : ∀ ty, (Builtin.copy_ #[52, 52] ty #[.slice (some ⟨w.heap.size + 1 + 1 + 1, 2, none⟩) 3 3, .slice U m cu]).run Try.prog ((((w.alloc (.cells #[.slice SA g.ns c, .slice FA g.nf fc, .slice MA g.nm mc] 26)).alloc (.cells #[.slice TA n tc] 60)).alloc (.cells #[.int .i8 0, .int .i8 0, .int .i64 0, .int .i64 0, .int .i64 0, .int .i64 0, .int .i64 0, .int .i64 0] 62)).alloc (.cells #[.int .i8 op, .int .i8 m, .int .i64 0, .int .i64 0, .int .i64 0, .int .i64 0, .int .i64 f, .int .i64 k] 62)) =
        .ok (.int .i64 m) ((((w.alloc (.cells #[.slice SA g.ns c, .slice FA g.nf fc, .slice MA g.nm mc] 26)).alloc (.cells #[.slice TA n tc] 60)).alloc (.cells #[.int .i8 0, .int .i8 0, .int .i64 0, .int .i64 0, .int .i64 0, .int .i64 0, .int .i64 0, .int .i64 0] 62)).alloc (.cells #[.int .i8 op, .int .i8 m, .int .i64 (padA m A 0), .int .i64 (padA m A 1), .int .i64 (padA m A 2), .int .i64 0, .int .i64 f, .int .i64 k] 62)) := fun ty => by
      have := copy_args ((((w.alloc (.cells #[.slice SA g.ns c, .slice FA g.nf fc, .slice MA g.nm mc] 26)).alloc (.cells #[.slice TA n tc] 60)).alloc (.cells #[.int .i8 0, .int .i8 0, .int .i64 0, .int .i64 0, .int .i64 0, .int .i64 0, .int .i64 0, .int .i64 0] 62))) U m cu A op m f k (ha'.out.below hx0.out.bel) hm3 ty
      simp only [World.size_alloc] at this
      exact this
    have hx1 := Lib.hid (hx0.out.row (ndC (mkNd op m A f k)).toArray 62)
    have hr1 := Lib.hid (hr0.out.alloc (.cells (ndC (mkNd op m A f k)).toArray 62))
    have hb1 : Hid (ResAt ((((w.alloc (.cells #[.slice SA g.ns c, .slice FA g.nf fc, .slice MA g.nm mc] 26)).alloc (.cells #[.slice TA n tc] 60)).alloc (.cells (ndC nd0).toArray 62)).alloc (.cells (ndC (mkNd op m A f k)).toArray 62)) (w.heap.size + 3) (mkNd op m A f k)) := by
      have := heap_alloc_new (((w.alloc (.cells #[.slice SA g.ns c, .slice FA g.nf fc, .slice MA g.nm mc] 26)).alloc (.cells #[.slice TA n tc] 60)).alloc (.cells (ndC nd0).toArray 62)) (.cells (ndC (mkNd op m A f k)).toArray 62)
      simp only [World.size_alloc] at this
      exact this
    clear h3 hRm hr0
    go_wp2_with fail
    clear hcp
    go_loopw [16, 36] (fun _ i wr => ∃ j : Nat, j ≤ m ∧ i = .int .i64 j ∧ Hid (Bx w (rowK (w.heap.size + 3) (ndC (mkNd op m A f k)) 0 ++ toK w (.slice SA g.ns c) (.slice FA g.nf fc) (.slice MA g.nm mc) (.slice TA n tc)) wr) ∧ Hid (ResAt wr (w.heap.size + 2) nd0) ∧ Hid (ResAt wr (w.heap.size + 3) (mkNd op m A f k))) (fun _ i _ => m - (intOf i).toNat)
    case atStart =>
      have h1 := hx1.out
      simp only [World.size_alloc] at h1
      exact ⟨0, Nat.zero_le _, rfl, h1, hr1.out, hb1.out⟩
    case round =>
      clear hx1 hr1 hb1 hx0
      obtain ⟨j, hj, rfl, hx, hr, hb⟩ := hrel
      by_cases hlt : j < m
      · have i1 : decide ((j : Int) < (m : Int)) = true := decide_eq_true (by omega)
        obtain ⟨b, o, rfl, hbl, hc⟩ := hcu'.out (by omega)
        have rj := (hx.out.bel.cell (p := ⟨b, o + j, none⟩) hbl).trans (hc j hlt)
        have k0 := hx.out.right.cells.1.1
        have ho := Lib.hid (hout.out j hlt)
        clear hc
        by_cases h1 : A j < 0
        · have d1 : decide (A j < 0) = true := decide_eq_true h1
          have hR2 := Lib.hid (ho.out (.inl h1))
          clear h1
          go_wp2_with (refine wpList_storeNd rfl rfl _ _ rfl (w.heap.size + 2) rfl _ hr.out nd0 rfl ?_)
          exact bodyPost_ret (results_nd2 rfl _ _ (w.heap.size + 2) nd0 rfl (hr.out.set nd0)) rfl ⟨by rw [hR2.out]; rfl, below_setRow hx.out.bel (by omega) _⟩
        · have d1 : decide (A j < 0) = false := decide_eq_false h1
          by_cases h2 : (n : Int) ≤ A j
          · have d2 : decide ((n : Int) ≤ A j) = true := decide_eq_true h2
            have hR2 := Lib.hid (ho.out (.inr h2))
            clear h1 h2
            go_wp2_with (refine wpList_storeNd rfl rfl _ _ rfl (w.heap.size + 2) rfl _ hr.out nd0 rfl ?_)
            exact bodyPost_ret (results_nd2 rfl _ _ (w.heap.size + 2) nd0 rfl (hr.out.set nd0)) rfl ⟨by rw [hR2.out]; rfl, below_setRow hx.out.bel (by omega) _⟩
          · have d2 : decide ((n : Int) ≤ A j) = false := decide_eq_false h2
            clear h1 h2
            go_wp2_with fail
            go_roundw
            case rel => exact ⟨j + 1, by omega, by go_num, hx.out, hr.out, hb.out⟩
            case measure => simp [intOf]; omega
      · have i1 : decide ((j : Int) < (m : Int)) = false := decide_eq_false (by omega)
        obtain ⟨k0, k1, k2, k3, k4, k5, k6, k7, -⟩ := hb.out.cells
        obtain ⟨⟨q0, -⟩, ⟨q1, -⟩, ⟨q2, -⟩, ⟨q3, -⟩, -⟩ := hx.out.right.cells
        have hM := Lib.hid (Tmay_any _ _ _ _ g n N (mkNd op m A f k) wr (hG'.out.below hx.out.bel) hf'.out (hv'.out.below hx.out.bel) hn hXR.out)
        have hmi := Lib.hid fun h => may_in (g := g) (n := n) (N := N) hXR.out h
        generalize hX : mkNd op m A f k = X at *
        clear hX
        unfold ndV at hM
        clear hout
        go_wp2_with fail
        refine hM.out.mono ?_
        rintro z w1 ⟨rfl, hb1⟩
        have hx1 := Lib.hid (hx.out.step hb1)
        have hr1 := Lib.hid (hr.out.step hb1)
        have hbx1 := Lib.hid (hb.out.step hb1)
        clear hb1 hx hr hb hM k0 k1 k2 k3 k4 k5 k6 k7 q0 q1 q2 q3
        cases hk : mayT g n N X with
        | false =>
          have hR2 : Hid (makeT g n N op m A f k = (nd0, 2)) := by unfold Hid; rw [hR.out, if_pos hk]
          clear hk
          go_wp2_with (refine wpList_storeNd rfl rfl _ _ rfl (w.heap.size + 2) rfl _ hr1.out nd0 rfl ?_)
          exact bodyPost_ret (results_nd2 rfl _ _ (w.heap.size + 2) nd0 rfl (hr1.out.set nd0)) rfl ⟨by rw [hR2.out]; rfl, below_setRow hx1.out.bel (by omega) _⟩
        | true =>
          have hRt : Hid (makeT g n N op m A f k = if (nodeT g N X).2 = 0 then (X.sorted (nodeT g N X).1, 0) else (nd0, 33)) := by unfold Hid; rw [hR.out, if_neg (by rw [hk]; simp)]
          have hin := Lib.hid (hmi.out hk)
          have hS := Lib.hid (TSort_any _ _ _ _ g n N X w1 (hG'.out.below hx1.out.bel) hf'.out (hv'.out.below hx1.out.bel) hin.out)
          unfold ndV at hS
          clear hk hR
          obtain ⟨k0, k1, k2, k3, k4, k5, k6, k7, -⟩ := hbx1.out.cells
          obtain ⟨⟨q0, -⟩, ⟨q1, -⟩, ⟨q2, -⟩, ⟨q3, -⟩, -⟩ := hx1.out.right.cells
          go_wp2_with fail
          refine hS.out.mono ?_
          rintro z w2 ⟨rfl, hb2⟩
          have hx2 := Lib.hid (hx1.out.step hb2)
          have hr2 := Lib.hid (hr1.out.step hb2)
          have hbx2 := Lib.hid (hbx1.out.step hb2)
          unfold sortV
          clear hb2 hx1 hr1 hbx1 hS k0 k1 k2 k3 k4 k5 k6 k7 q0 q1 q2 q3
          generalize nodeT g N X = pp at *
          obtain ⟨ps, pe⟩ := pp
          dsimp only at hRt
          by_cases h0 : pe = 0
          · have d0 : (pe == 0) = true := by simpa using h0
            have hR2 : Hid (makeT g n N op m A f k = (X.sorted ps, 0)) := by unfold Hid; rw [hRt.out, if_pos h0]
            clear h0
            obtain ⟨k0, k1, k2, k3, k4, k5, k6, k7, k8⟩ := hbx2.out.cells
            have hr3 : Hid (ResAt (w2.setCell ⟨w.heap.size + 3, 5, none⟩ (.int .i64 ps)) (w.heap.size + 2) nd0) := (heap_setCell_other w2 ⟨w.heap.size + 3, 5, none⟩ (w.heap.size + 2) _ (by simp)).trans hr2.out
            have hbw := Lib.hid (hx2.out.bel.setCell (p := ⟨w.heap.size + 3, 5, none⟩) (by show w.heap.size ≤ w.heap.size + 3; omega) (.int .i64 ps))
            go_wp2_with (refine wpList_storeNd rfl rfl _ _ rfl (w.heap.size + 2) rfl _ hr3.out (X.sorted ps) rfl ?_)
            exact bodyPost_ret (results_nd2 rfl _ _ (w.heap.size + 2) (X.sorted ps) rfl (hr3.out.set _)) rfl ⟨by rw [hR2.out]; rfl, below_setRow hbw.out (by omega) _⟩
          · have d0 : (pe == 0) = false := by simpa using h0
            have hR2 : Hid (makeT g n N op m A f k = (nd0, 33)) := by unfold Hid; rw [hRt.out, if_neg h0]
            clear h0
            go_wp2_with (refine wpList_storeNd rfl rfl _ _ rfl (w.heap.size + 2) rfl _ hr2.out nd0 rfl ?_)
            exact bodyPost_ret (results_nd2 rfl _ _ (w.heap.size + 2) nd0 rfl (hr2.out.set nd0)) rfl ⟨by rw [hR2.out]; rfl, below_setRow hx2.out.bel (by omega) _⟩
end Go.Proofs.Ythkbekfdjfmmbaa
