/- gantryref06.Make. -/
import Derived.Test.YthkbekfdjfmmbaaZR6RuleR6TabR6TabB
import Derived.Test.YthkbekfdjfmmbaaZTyMkTyMk2
namespace Go.Proofs.Ythkbekfdjfmmbaa
open Go.RowKit
set_option maxRecDepth 100000

/-- The node that Make has built behind j Args. -/
def mkJ (op : Int) (m : Nat) (A : Nat → Int) (f k : Int) (j : Nat) : Nd := ⟨op, m, padA j A 0, padA j A 1, padA j A 2, 0, f, k⟩
theorem mkJ_end (op : Int) (m : Nat) (A : Nat → Int) (f k : Int) : mkJ op m A f k m = mkNd op m A f k := rfl
theorem padA_more {A : Nat → Int} {j i : Nat} (h : i ≠ j) : padA (j + 1) A i = padA j A i := by
  unfold padA
  by_cases hi : i < j
  · rw [if_pos hi, if_pos (by omega)]
  · rw [if_neg hi, if_neg (by omega)]
theorem padA_new {A : Nat → Int} {j : Nat} : padA (j + 1) A j = A j := if_pos (by omega)
theorem ResAt.put {x : World} {g : Nat} {op : Int} {m : Nat} {A : Nat → Int} {f k : Int} {j : Nat} (h : ResAt x g (mkJ op m A f k j)) (hj : j < 3) : ResAt (x.setCell ⟨g, 2 + j, none⟩ (.int .i64 (A j))) g (mkJ op m A f k (j + 1)) := by
  unfold ResAt at h ⊢
  rw [heap_setCell_same x g (2 + j) _ _ _ h]
  congr 2
  have : j = 0 ∨ j = 1 ∨ j = 2 := by omega
  rcases this with rfl | rfl | rfl
  · show _ = (ndC (mkJ op m A f k 1)).toArray
    simp [ndC, mkJ, padA_new, padA_more]
  · show _ = (ndC (mkJ op m A f k 2)).toArray
    simp [ndC, mkJ, padA_new, padA_more]
  · show _ = (ndC (mkJ op m A f k 3)).toArray
    simp [ndC, mkJ, padA_new, padA_more]
theorem ResAt.frz {x : World} {g : Nat} {e : Nd} (h : ResAt x g e) (j : Nat) : x.frozen? ⟨g, j, none⟩ = false := frozen_of_row x g j _ _ h
theorem toK_far {w : World} {sv fv mv tv : Value} : ∀ a ∈ toK w sv fv mv tv, a.1 < w.heap.size + 2 := by
  intro a ha
  simp only [toK, List.mem_cons, List.not_mem_nil, or_false] at ha
  rcases ha with rfl | rfl | rfl | rfl <;> simp
theorem Bx.far {w x : World} {K : List (Nat × Nat × Value)} {b o : Nat} {u : Value} (h : Bx w K x) (hne : ∀ a ∈ K, a.1 < b) (hw : w.heap.size ≤ b) : Bx w K (x.setCell ⟨b, o, none⟩ u) :=
  ⟨h.cells.set (fun a ha => by have := hne a ha; omega), h.bel.setCell hw _⟩
theorem make_no {g : Sg} {n : Nat} {N : Nat → Nd} {op : Int} {m : Nat} {A : Nat → Int} {f k : Int} (h : mayT g n N (mkNd op m A f k) = false) : makeT g n N op m A f k = (nd0, 2) := by
  unfold makeT
  split
  · rfl
  · first | rfl | rw [if_pos h]
set_option maxHeartbeats 16000000 in
theorem R6Make_any (sv fv mv tv av : Value) (g : Sg) (n : Nat) (N : Nat → Nd) (op : Int) (m : Nat) (A : Nat → Int) (f k : Int) (w : World) (hG : SgAt w sv fv mv g) (hv : NdsAt w tv n N) (hn : n ≤ 999999) (h8 : R8 op) (ha : IntsAt w av m A) (hfr : R64 f) (hkr : R64 k) :
    Calls Try.prog 32 #[.agg #[sv, fv, mv], .agg #[tv], .int .i8 op, av, .int .i64 f, .int .i64 k] w (MakeP (makeT g n N op m A f k) w) := by
  have hG' := Lib.hid hG
  obtain ⟨SA, c, rfl, -, -⟩ := hG.1
  obtain ⟨FA, fc, rfl, -, -⟩ := hG.2.1
  obtain ⟨MA, mc, rfl, -, -⟩ := hG.2.2
  have hv' := Lib.hid hv
  obtain ⟨TA, tc, rfl, hcap, _, _⟩ := hv
  obtain ⟨U, cu, rfl, hm63, hRa, hcu⟩ := ha
  have hcu' := Lib.hid hcu
  have hx0 := Lib.hid ((toK_bx w (.slice SA g.ns c) (.slice FA g.nf fc) (.slice MA g.nm mc) (.slice TA n tc)).skip (.cells (ndC nd0).toArray 62))
  have hr0 : Hid (ResAt (((w.alloc (.cells #[.slice SA g.ns c, .slice FA g.nf fc, .slice MA g.nm mc] 26)).alloc (.cells #[.slice TA n tc] 60)).alloc (.cells (ndC nd0).toArray 62)) (w.heap.size + 2) nd0) := by
    have := heap_alloc_new ((w.alloc (.cells #[.slice SA g.ns c, .slice FA g.nf fc, .slice MA g.nm mc] 26)).alloc (.cells #[.slice TA n tc] 60)) (.cells (ndC nd0).toArray 62)
    simp only [World.size_alloc] at this
    exact this
  have hRm : Hid (makeT g n N op m A f k = if 3 < m then (nd0, 2) else if mayT g n N (mkNd op m A f k) = false then (nd0, 2) else if (nodeT g N (mkNd op m A f k)).2 = 0 then ((mkNd op m A f k).sorted (nodeT g N (mkNd op m A f k)).1, 0) else (nd0, 33)) := rfl
  have hout := Lib.hid fun i (hi : i < m) h => make_out (g := g) (n := n) (N := N) (op := op) (m := m) (A := A) (f := f) (k := k) (i := i) hi h
  have hno := Lib.hid fun h => make_no (g := g) (n := n) (N := N) (op := op) (m := m) (A := A) (f := f) (k := k) h
  have hmT : Hid (mayT g n N (mkNd op m A f k) = (checkG g && (checkB n N && standsB (mkNd op m A f k) n))) := rfl
  have hC := Lib.hid (RCheck4_any _ _ _ g _ (hG'.out.below hx0.out.bel))
  have hCt := Lib.hid fun (x : World) (hb : Below w.heap.size w x) => RCheck_any _ n N x (hv'.out.below hb) (by omega)
  have ht := Lib.hid (check_cases n N)
  obtain ⟨⟨k0, -⟩, ⟨k1, -⟩, ⟨k2, -⟩, ⟨k3, -⟩, -⟩ := hx0.out.cells
  clear hG hcu
  go_enter Try.func32, Try.ntmps32
  go_wp2_with fail
  refine hC.out.mono ?_
  rintro z w1 ⟨rfl, hb1⟩
  have hx1 := Lib.hid (hx0.out.step hb1)
  have hr1 := Lib.hid (hr0.out.step hb1)
  clear hb1 hC hx0 hr0 k0 k1 k2 k3
  obtain ⟨⟨k0, -⟩, ⟨k1, -⟩, ⟨k2, -⟩, ⟨k3, -⟩, -⟩ := hx1.out.cells
  cases hk : checkG g with
  | false =>
    have hR : Hid (makeT g n N op m A f k = (nd0, 2)) := hno.out (by rw [hmT.out, hk]; rfl)
    unfold chV
    go_wp2_with (refine wpList_storeNd rfl rfl _ _ rfl (w.heap.size + 2) rfl _ hr1.out nd0 rfl ?_)
    exact bodyPost_ret (results_nd2 rfl _ _ (w.heap.size + 2) nd0 rfl (hr1.out.set nd0)) rfl ⟨by rw [hR.out]; rfl, below_setRow hx1.out.bel (by omega) _⟩
  | true =>
  rw [hk, Bool.true_and] at hmT
  clear hk
  unfold chV
  go_wp2_with fail
  refine (hCt.out _ hx1.out.bel).mono ?_
  rintro z w2 ⟨rfl, hb2⟩
  have hx2 := Lib.hid (hx1.out.step hb2)
  have hr2 := Lib.hid (hr1.out.step hb2)
  clear hb2 hx1 hr1 k0 k1 k2 k3
  obtain ⟨⟨k0, -⟩, ⟨k1, -⟩, ⟨k2, -⟩, ⟨k3, -⟩, -⟩ := hx2.out.cells
  by_cases hck : checkT n N = 0
  case neg =>
    have hck2 := ht.out.resolve_left hck
    have hR : Hid (makeT g n N op m A f k = (nd0, 2)) := hno.out (by rw [hmT.out, checkB_no' (fun h => hck (check_yes h))]; rfl)
    rw [hck2]
    clear hck hck2
    go_wp2_with (refine wpList_storeNd rfl rfl _ _ rfl (w.heap.size + 2) rfl _ hr2.out nd0 rfl ?_)
    exact bodyPost_ret (results_nd2 rfl _ _ (w.heap.size + 2) nd0 rfl (hr2.out.set nd0)) rfl ⟨by rw [hR.out]; rfl, below_setRow hx2.out.bel (by omega) _⟩
  have hcB := Lib.hid (checkB_yes' (check_zero hck))
  rw [hcB.out, Bool.true_and] at hmT
  rw [hck]
  clear hck ht
  by_cases h3 : 3 < m
  · have d3 : decide ((3 : Int) < (m : Int)) = true := decide_eq_true (by omega)
    have hR : Hid (makeT g n N op m A f k = (nd0, 2)) := by unfold Hid; rw [hRm.out, if_pos h3]
    clear h3
    go_wp2_with (refine wpList_storeNd rfl rfl _ _ rfl (w.heap.size + 2) rfl _ hr2.out nd0 rfl ?_)
    exact bodyPost_ret (results_nd2 rfl _ _ (w.heap.size + 2) nd0 rfl (hr2.out.set nd0)) rfl ⟨by rw [hR.out]; rfl, below_setRow hx2.out.bel (by omega) _⟩
  have d3 : decide ((3 : Int) < (m : Int)) = false := decide_eq_false (by omega)
  have hm3 : m ≤ 3 := by omega
  have hR : Hid (makeT g n N op m A f k = if mayT g n N (mkNd op m A f k) = false then (nd0, 2) else if (nodeT g N (mkNd op m A f k)).2 = 0 then ((mkNd op m A f k).sorted (nodeT g N (mkNd op m A f k)).1, 0) else (nd0, 33)) := by unfold Hid; rw [hRm.out, if_neg h3]
  have hw8 : IntKind.i8.wrap (m : Int) = m := by unfold IntKind.wrap; simp [IntKind.bits, IntKind.signed]; omega
  have hal : Try.prog.arrayLen 27 = 3 := by kernel_rfl
  have hXR := Lib.hid (mkNd_R (op := op) (m := m) (A := A) h8 hm3 hRa hfr hkr)
  have hsz := hx2.out.bel.size
  have hxs := Lib.hid (hx2.out.skip (.cells (ndC (mkJ op m A f k 0)).toArray 62))
  have hrs := Lib.hid (hr2.out.alloc (.cells (ndC (mkJ op m A f k 0)).toArray 62))
  have hbs : Hid (ResAt (w2.alloc (.cells (ndC (mkJ op m A f k 0)).toArray 62)) w2.heap.size (mkJ op m A f k 0)) := heap_alloc_new w2 (.cells (ndC (mkJ op m A f k 0)).toArray 62)
  have hG2 : Hid (w.heap.size + 2 < w2.heap.size) := (Array.getElem?_eq_some_iff.1 hr2.out).1
  clear h3 hRm
  go_wp2_with fail
  clear k0 k1 k2 k3 d3 hx2 hr2
  obtain ⟨G, hGe⟩ : ∃ G, G = w2.heap.size := ⟨_, rfl⟩
  rw [← hGe] at hbs hG2 ⊢
  have hGe' := Lib.hid hGe
  clear hGe
  go_loopw [15] (fun i wr => ∃ j : Nat, j ≤ m ∧ i = .int .i64 j ∧ Hid (Bx w (toK w (.slice SA g.ns c) (.slice FA g.nf fc) (.slice MA g.nm mc) (.slice TA n tc)) wr) ∧ Hid (ResAt wr (w.heap.size + 2) nd0) ∧ Hid (ResAt wr G (mkJ op m A f k j))) (fun i _ => m - (intOf i).toNat)
  case atStart => exact ⟨0, Nat.zero_le _, rfl, hxs.out, hrs.out, hbs.out⟩
  case round =>
    clear hxs hrs hbs
    obtain ⟨j, hj, rfl, hx, hr, hb⟩ := hrel
    by_cases hlt : j < m
    · have i1 : decide ((j : Int) < (m : Int)) = true := decide_eq_true (by omega)
      obtain ⟨b, o, rfl, hbl, hc⟩ := hcu'.out (by omega)
      have rj := (hx.out.bel.cell (p := ⟨b, o + j, none⟩) hbl).trans (hc j hlt)
      have k0 := hx.out.cells.1.1
      have ho := Lib.hid (hout.out j hlt)
      have hj0 : (0 : Int) ≤ (j : Int) := by omega
      have hjm : (j : Int) < (m : Int) := by omega
      have hj3 : (j : Int) < 3 := by omega
      have hj3n : j < 3 := by omega
      clear hc
      by_cases h1 : A j < 0
      · have d1 : decide (A j < 0) = true := decide_eq_true h1
        have hR2 := Lib.hid (ho.out (.inl h1))
        have hrd := Lib.hid (fun q => hr.out.step (below_drewN (Below.refl _ _) q))
        clear h1
        go_wp2_with fail
        go_quiet (fail)
        go_wp2_with (refine wpList_storeNd rfl rfl _ _ rfl (w.heap.size + 2) rfl _ (hrd.out _) nd0 rfl ?_)
        exact bodyPost_ret (results_nd2 rfl _ _ (w.heap.size + 2) nd0 rfl ((hrd.out _).set nd0)) rfl ⟨by rw [hR2.out]; rfl, below_setRow (hx.out.drewN _).bel (by omega) _⟩
      have d1 : decide (A j < 0) = false := decide_eq_false h1
      by_cases h2 : (n : Int) ≤ A j
      · have d2 : decide ((n : Int) ≤ A j) = true := decide_eq_true h2
        have hR2 := Lib.hid (ho.out (.inr h2))
        have hrd := Lib.hid (fun q => hr.out.step (below_drewN (Below.refl _ _) q))
        clear h1 h2
        go_wp2_with fail
        go_quiet (fail)
        go_wp2_with (refine wpList_storeNd rfl rfl _ _ rfl (w.heap.size + 2) rfl _ (hrd.out _) nd0 rfl ?_)
        exact bodyPost_ret (results_nd2 rfl _ _ (w.heap.size + 2) nd0 rfl ((hrd.out _).set nd0)) rfl ⟨by rw [hR2.out]; rfl, below_setRow (hx.out.drewN _).bel (by omega) _⟩
      have d2 : decide ((n : Int) ≤ A j) = false := decide_eq_false h2
      have hput := Lib.hid (fun q => (hb.out.step (below_drewN (Below.refl _ _) q)).put hj3n)
      have hrp := Lib.hid (fun q => (show ResAt ((wr.drewN q).setCell ⟨G, 2 + j, none⟩ (.int .i64 (A j))) (w.heap.size + 2) nd0 from (heap_setCell_other _ ⟨G, 2 + j, none⟩ (w.heap.size + 2) _ (by have := hG2.out; show w.heap.size + 2 ≠ G; omega)).trans (hr.out.step (below_drewN (Below.refl _ _) q))))
      have hxp := Lib.hid (fun q => (hx.out.drewN q).far (b := G) (o := 2 + j) (u := .int .i64 (A j)) (fun a ha => by have := toK_far a ha; have := hG2.out; omega) (by have := hG2.out; omega))
      have hcell : ∃ u, wr.cell? ⟨G, 2 + j, none⟩ = some u := by
        obtain ⟨_, _, e2, e3, e4, _⟩ := hb.out.cells
        match j, hj3n with
        | 0, _ => exact ⟨_, e2⟩
        | 1, _ => exact ⟨_, e3⟩
        | 2, _ => exact ⟨_, e4⟩
      obtain ⟨u, hu⟩ := hcell
      have hfz := hb.out.frz (2 + j)
      clear h1 h2
      go_wp2_with fail
      go_quiet (fail)
      go_wp2_with fail
      go_roundw
      case rel => exact ⟨j + 1, by omega, by go_num, hxp.out _, hrp.out _, hput.out _⟩
      case measure => simp [intOf]; omega
    · have i1 : decide ((j : Int) < (m : Int)) = false := decide_eq_false (by omega)
      obtain rfl : j = m := by omega
      rw [mkJ_end] at hb
      obtain ⟨k0, k1, k2, k3, k4, k5, k6, k7, -⟩ := hb.out.cells
      obtain ⟨⟨q0, -⟩, ⟨q1, -⟩, ⟨q2, -⟩, ⟨q3, -⟩, -⟩ := hx.out.cells
      have hM := Lib.hid (R6Stands_any _ n N (mkNd op j A f k) wr (hv'.out.below hx.out.bel) hn hXR.out)
      have hmi := Lib.hid fun h => may_in (g := g) (n := n) (N := N) hXR.out h
      generalize hX : mkNd op j A f k = X at *
      clear hX
      unfold ndV at hM
      rw [hcB.out, Bool.true_and] at hM
      clear hout
      go_wp2_with fail
      refine hM.out.mono ?_
      rintro z w3 ⟨rfl, hb3⟩
      have hx3 := Lib.hid (hx.out.step hb3)
      have hr3 := Lib.hid (hr.out.step hb3)
      have hbx3 := Lib.hid (hb.out.step hb3)
      clear hb3 hx hr hb hM k0 k1 k2 k3 k4 k5 k6 k7 q0 q1 q2 q3
      cases hs : standsB X n with
      | false =>
        have hR2 : Hid (makeT g n N op j A f k = (nd0, 2)) := hno.out (by rw [hmT.out, hs])
        clear hs
        go_wp2_with (refine wpList_storeNd rfl rfl _ _ rfl (w.heap.size + 2) rfl _ hr3.out nd0 rfl ?_)
        exact bodyPost_ret (results_nd2 rfl _ _ (w.heap.size + 2) nd0 rfl (hr3.out.set nd0)) rfl ⟨by rw [hR2.out]; rfl, below_setRow hx3.out.bel (by omega) _⟩
      | true =>
      have hmy : mayT g n N X = true := by rw [hmT.out, hs]
      have hRt : Hid (makeT g n N op j A f k = if (nodeT g N X).2 = 0 then (X.sorted (nodeT g N X).1, 0) else (nd0, 33)) := by unfold Hid; rw [hR.out, if_neg (by rw [hmy]; simp)]
      have hin := Lib.hid (hmi.out hmy)
      have hS := Lib.hid (RRule_any _ _ _ _ g n N X w3 (hG'.out.below hx3.out.bel) (hv'.out.below hx3.out.bel) hin.out)
      have hru := rule_ok g N X
      unfold ndV at hS
      unfold opV at hS
      clear hs hR hmy
      obtain ⟨k0, k1, k2, k3, k4, k5, k6, k7, -⟩ := hbx3.out.cells
      obtain ⟨⟨q0, -⟩, ⟨q1, -⟩, ⟨q2, -⟩, ⟨q3, -⟩, -⟩ := hx3.out.cells
      have hRu : Hid (makeT g n N op j A f k = if (ruleT g N X).2 = 0 then (X.sorted (ruleT g N X).1, 0) else (nd0, 33)) := by
        unfold Hid
        rw [hRt.out]
        by_cases h0 : (nodeT g N X).2 = 0
        · rw [if_pos h0, hru.2 h0, if_pos h0]
        · have h1 := hru.1
          rw [if_neg h0, if_neg (fun e => h0 (by rw [e] at h1; simpa using h1.symm))]
      clear hru hRt
      generalize ruleT g N X = pp at *
      obtain ⟨ps, pe⟩ := pp
      dsimp only at hRu hS
      go_wp2_with fail
      refine hS.out.mono ?_
      rintro z w4 ⟨rfl, hb4⟩
      have hx4 := Lib.hid (hx3.out.step hb4)
      have hr4 := Lib.hid (hr3.out.step hb4)
      have hbx4 := Lib.hid (hbx3.out.step hb4)
      clear hb4 hx3 hr3 hbx3 hS k0 k1 k2 k3 k4 k5 k6 k7 q0 q1 q2 q3
      by_cases h0 : pe = 0
      · have d0 : (pe != 0) = false := by simpa using h0
        have hR2 : Hid (makeT g n N op j A f k = (X.sorted ps, 0)) := by unfold Hid; rw [hRu.out, if_pos h0]
        clear h0
        obtain ⟨k0, k1, k2, k3, k4, k5, k6, k7, k8⟩ := hbx4.out.cells
        have hr5 : Hid (ResAt (w4.setCell ⟨G, 5, none⟩ (.int .i64 ps)) (w.heap.size + 2) nd0) := (heap_setCell_other w4 ⟨G, 5, none⟩ (w.heap.size + 2) _ (by have := hG2.out; show w.heap.size + 2 ≠ G; omega)).trans hr4.out
        have hbw := Lib.hid (hx4.out.bel.setCell (p := ⟨G, 5, none⟩) (by have := hG2.out; show w.heap.size ≤ G; omega) (.int .i64 ps))
        go_wp2_with (refine wpList_storeNd rfl rfl _ _ rfl (w.heap.size + 2) rfl _ hr5.out (X.sorted ps) rfl ?_)
        exact bodyPost_ret (results_nd2 rfl _ _ (w.heap.size + 2) (X.sorted ps) rfl (hr5.out.set _)) rfl ⟨by rw [hR2.out]; rfl, below_setRow hbw.out (by omega) _⟩
      · have d0 : (pe != 0) = true := by simpa using h0
        have hR2 : Hid (makeT g n N op j A f k = (nd0, 33)) := by unfold Hid; rw [hRu.out, if_neg h0]
        clear h0
        go_wp2_with (refine wpList_storeNd rfl rfl _ _ rfl (w.heap.size + 2) rfl _ hr4.out nd0 rfl ?_)
        exact bodyPost_ret (results_nd2 rfl _ _ (w.heap.size + 2) nd0 rfl (hr4.out.set nd0)) rfl ⟨by rw [hR2.out]; rfl, below_setRow hx4.out.bel (by omega) _⟩
end Go.Proofs.Ythkbekfdjfmmbaa
