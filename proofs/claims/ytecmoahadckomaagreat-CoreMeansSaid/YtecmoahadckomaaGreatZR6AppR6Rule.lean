/- gantryref06.App. -/
import Derived.Test.YtecmoahadckomaaGreatZTyWToTyK
import Derived.Test.YtecmoahadckomaaGreatZRCk4
import Derived.Deep.RegionLawGrows
namespace Go.Proofs.YtecmoahadckomaaGreat
open Go.RowKit
set_option maxRecDepth 100000

set_option maxHeartbeats 4000000 in
theorem RTApp_any (sv fv mv : Value) (g : Sg) (f : Int) (v : Value) (m : Nat) (S : Nat → Int) (w : World) (hG : SgAt w sv fv mv g) (hv : IntsAt w v m S) :
    Calls Tryz.prog 63 #[.agg #[sv, fv, mv], .int .i64 f, v] w fun e w' => e = .returned (opV (appT g f m S)) ∧ Below w.heap.size w w' := by
  have hG' := Lib.hid hG
  obtain ⟨A, c, rfl, -, -⟩ := hG.1
  obtain ⟨FA, fc, rfl, ⟨hfn, hfc⟩, -⟩ := hG.2.1
  obtain ⟨MA, mc, rfl, -, -⟩ := hG.2.2
  have hv' := Lib.hid hv
  obtain ⟨U, cu, rfl, hm, hRu, hcu⟩ := hv
  have hcu' := Lib.hid hcu
  have hx := Lib.hid (sgR_bx w (.slice A g.ns c) (.slice FA g.nf fc) (.slice MA g.nm mc))
  have hC := Lib.hid (RCheck4_any _ _ _ g _ (hG'.out.below hx.out.bel))
  have hR : Hid (appT g f m S = if checkG g = false then (0, 2) else if f < 0 ∨ (g.nf : Int) ≤ f then (0, 2) else if (m : Int) ≠ (g.F f.toNat).len then (0, 2) else if argsB (g.F f.toNat) m S = true then ((g.F f.toNat).res, 0) else (0, 33)) := rfl
  obtain ⟨k0, k1, k2⟩ := sgR_cells hx.out
  clear hcu hRu hG
  go_enter Tryz.func63, Tryz.ntmps63
  cases hk : checkG g with
  | false =>
    have hR2 : Hid (appT g f m S = (0, 2)) := by unfold Hid; rw [hR.out, if_pos hk]
    rw [hk] at hC
    go_wp2_with fail
    refine hC.out.mono ?_
    rintro e w1 ⟨rfl, hb1⟩
    have hx1 := Lib.hid (hx.out.step hb1)
    unfold chV
    go_wp2_with fail
    exact bodyPost_ret (results_tmp2 rfl _ _ _) rfl ⟨by rw [hR2.out]; rfl, hx1.out.bel⟩
  | true =>
  have hlen := Lib.hid fun i (hi : i < g.nf) => check_len hk hi
  rw [hk] at hC hR
  clear hk
  unfold chV at hC
  go_wp2_with fail
  refine hC.out.mono ?_
  rintro e w1 ⟨rfl, hb1⟩
  have hx1 := Lib.hid (hx.out.step hb1)
  clear k0 k1 k2 hx hb1
  obtain ⟨k0, k1, k2⟩ := sgR_cells hx1.out
  by_cases hf0 : f < 0
  · have d0 : decide (f < 0) = true := decide_eq_true hf0
    have hR2 : Hid (appT g f m S = (0, 2)) := by unfold Hid; rw [hR.out, if_neg (by simp), if_pos (.inl hf0)]
    clear hf0
    go_wp2_with fail
    exact bodyPost_ret (results_tmp2 rfl _ _ _) rfl ⟨by rw [hR2.out]; rfl, hx1.out.bel⟩
  have d0 : decide (f < 0) = false := decide_eq_false hf0
  by_cases hfn2 : (g.nf : Int) ≤ f
  · have d1 : decide ((g.nf : Int) ≤ f) = true := decide_eq_true hfn2
    have hR2 : Hid (appT g f m S = (0, 2)) := by unfold Hid; rw [hR.out, if_neg (by simp), if_pos (.inr hfn2)]
    clear hf0 hfn2
    go_wp2_with fail
    exact bodyPost_ret (results_tmp2 rfl _ _ _) rfl ⟨by rw [hR2.out]; rfl, hx1.out.bel⟩
  have d1 : decide ((g.nf : Int) ≤ f) = false := decide_eq_false hfn2
  obtain ⟨fi, rfl⟩ : ∃ fi : Nat, f = fi := ⟨f.toNat, by omega⟩
  rw [Int.toNat_natCast] at hR
  have hfi : fi < g.nf := by omega
  have hd : decide (g.nf ≤ fi) = false := decide_eq_false (by omega)
  have hR2 : Hid (appT g fi m S = if (m : Int) ≠ (g.F fi).len then (0, 2) else if argsB (g.F fi) m S = true then ((g.F fi).res, 0) else (0, 33)) := by unfold Hid; rw [hR.out, if_neg (by simp), if_neg (by omega)]
  obtain ⟨hl0, hl3⟩ := hlen.out fi hfi
  clear hf0 hfn2 hR hlen
  obtain ⟨b, o, cc, e, hbl, hfl⟩ := RowAt.at_ hG'.out.2.1 hfi
  injection e with e1 _ e3
  subst e1; subst e3
  have hP := Lib.hid fun (x : World) (h : Bx w (sgR w (.slice A g.ns c) (.slice (some ⟨b, o, none⟩) g.nf fc) (.slice MA g.nm mc)) x) => show FnLies x b (o + fi * 6) (g.F fi) from hfl.1.keep fun o => h.bel.cell (p := ⟨b, o, none⟩) hbl
  obtain ⟨p0, p1, p2, p3, p4, p5⟩ := hP.out _ hx1.out
  clear hfl
  by_cases hml : (m : Int) = (g.F fi).len
  case neg =>
    have d2 : ((m : Int) != (g.F fi).len) = true := by simpa using hml
    have hR3 : Hid (appT g fi m S = (0, 2)) := by unfold Hid; rw [hR2.out, if_pos hml]
    clear hml hR2
    go_wp2_with fail
    exact bodyPost_ret (results_tmp2 rfl _ _ _) rfl ⟨by rw [hR3.out]; rfl, hx1.out.bel⟩
  have d2 : ((m : Int) != (g.F fi).len) = false := by simpa using hml
  have hR3 : Hid (appT g fi m S = if argsB (g.F fi) m S = true then ((g.F fi).res, 0) else (0, 33)) := by unfold Hid; rw [hR2.out, if_neg (fun h => h hml)]
  have hm3 : m ≤ 3 := by omega
  clear hml hR2
  go_wp2_with fail
  clear k0 k1 k2 p0 p1 p2 p3 p4 p5 d2
  go_loopw [8] (fun i wr => ∃ j : Nat, j ≤ m ∧ i = .int .i64 j ∧ Hid (∀ k, k < j → S k = (g.F fi).arg k) ∧ Hid (Bx w (sgR w (.slice A g.ns c) (.slice (some ⟨b, o, none⟩) g.nf fc) (.slice MA g.nm mc)) wr)) (fun i _ => m - (intOf i).toNat)
  case atStart => exact ⟨0, Nat.zero_le _, rfl, fun k hk => absurd hk (Nat.not_lt_zero _), hx1.out⟩
  case round =>
    clear hx1
    obtain ⟨j, hj, rfl, hall, hx⟩ := hrel
    obtain ⟨k0, k1, k2⟩ := sgR_cells hx.out
    obtain ⟨p0, p1, p2, p3, p4, p5⟩ := hP.out _ hx.out
    by_cases hlt : j < m
    · have i1 : decide ((j : Int) < (m : Int)) = true := decide_eq_true (by omega)
      obtain ⟨bb, oo, rfl, hbb, hc⟩ := hcu'.out (by omega)
      have rj := (hx.out.bel.cell (p := ⟨bb, oo + j, none⟩) hbb).trans (hc j hlt)
      have hj3 : j < 3 := by omega
      have pj : wr.cell? ⟨b, o + fi * 6 + 2 + j, none⟩ = some (.int .i64 ((g.F fi).arg j)) := by
        match j, hj3 with
        | 0, _ => exact p2
        | 1, _ => exact p3
        | 2, _ => exact p4
      have hj0 : (0 : Int) ≤ (j : Int) := by omega
      have hjm : (j : Int) < (m : Int) := by omega
      have hj3' : (j : Int) < 3 := by omega
      have hf0 : (0 : Int) ≤ (fi : Int) := by omega
      have hfn' : (fi : Int) < (g.nf : Int) := by omega
      clear hc p0 p1 p2 p3 p4 p5
      by_cases he : S j = (g.F fi).arg j
      · have e1 : (S j != (g.F fi).arg j) = false := by simpa using he
        have he' := Lib.hid he
        clear he
        go_wp2_with fail
        go_quiet (fail)
        go_wp2_with fail
        go_roundw
        case rel => exact ⟨j + 1, by omega, by go_num, fun k hk => by
          by_cases e : k = j
          · subst e; exact he'.out
          · exact hall.out k (by omega), hx.out.drewN _⟩
        case measure => simp [intOf]; omega
      · have e1 : (S j != (g.F fi).arg j) = true := by simpa using he
        have hno : Hid (appT g fi m S = (0, 33)) := by unfold Hid; rw [hR3.out, args_no hlt he]; rfl
        clear he
        go_wp2_with fail
        go_quiet (fail)
        go_wp2_with fail
        exact bodyPost_ret (results_tmp2 rfl _ _ _) rfl ⟨by rw [hno.out]; rfl, (hx.out.drewN _).bel⟩
    · have i1 : decide ((j : Int) < (m : Int)) = false := decide_eq_false (by omega)
      have hyes : Hid (appT g fi m S = ((g.F fi).res, 0)) := by unfold Hid; rw [hR3.out, args_yes (m := m) fun i hi => hall.out i (by omega)]; rfl
      go_wp2_with fail
      exact bodyPost_ret (results_tmp2 rfl _ _ _) rfl ⟨by rw [hyes.out]; rfl, hx.out.bel⟩
end Go.Proofs.YtecmoahadckomaaGreat

namespace Go.Proofs.YtecmoahadckomaaGreat
open Go.RowKit
set_option maxRecDepth 100000

/-- What rule answers: an application's error is that of sorts. -/
def ruleT (g : Sg) (N : Nat → Nd) (e : Nd) : Int × Int := if e.op = 13 then (if (nodeT g N e).2 = 0 then nodeT g N e else (0, 33)) else nodeT g N e
theorem rule_ok (g : Sg) (N : Nat → Nd) (e : Nd) : ((ruleT g N e).2 == 0) = ((nodeT g N e).2 == 0) ∧ ((nodeT g N e).2 = 0 → ruleT g N e = nodeT g N e) := by
  unfold ruleT
  by_cases h : e.op = 13
  · rw [if_pos h]
    by_cases h2 : (nodeT g N e).2 = 0
    · rw [if_pos h2]; exact ⟨rfl, fun _ => rfl⟩
    · rw [if_neg h2]
      exact ⟨by rw [show ((0 : Int), (33 : Int)).2 = 33 from rfl]; simp; exact fun e => h2 e, fun e => absurd e h2⟩
  · rw [if_neg h]; exact ⟨rfl, fun _ => rfl⟩
theorem soK_args {w x : World} {sv fv mv tv : Value} {e : Nd} (h : Bx w (soK w sv fv mv tv e) x) : x.cell? ⟨w.heap.size + 2, 0, none⟩ = some (.int .i8 e.op) ∧ x.cell? ⟨w.heap.size + 2, 1, none⟩ = some (.int .i8 e.len) ∧ x.cell? ⟨w.heap.size + 2, 6, none⟩ = some (.int .i64 e.fn) ∧ x.cell? ⟨w.heap.size + 1, 0, none⟩ = some tv ∧ x.cell? ⟨w.heap.size, 0, none⟩ = some sv ∧ x.cell? ⟨w.heap.size, 1, none⟩ = some fv ∧ x.cell? ⟨w.heap.size, 2, none⟩ = some mv := by
  obtain ⟨h0, h1, h2, h3, h4, h5, h6, h7, h8, h9, _⟩ := h.cells
  exact ⟨h0.1, h1.1, h5.1, h6.1, h7.1, h8.1, h9.1⟩
set_option maxHeartbeats 8000000 in
theorem RRule_any (sv fv mv tv : Value) (g : Sg) (n : Nat) (N : Nat → Nd) (e : Nd) (w : World) (hG : SgAt w sv fv mv g) (hv : NdsAt w tv n N) (he : InT n e) :
    Calls Tryz.prog 32 #[.agg #[sv, fv, mv], .agg #[tv], ndV e] w fun z w' => z = .returned (opV (ruleT g N e)) ∧ Below w.heap.size w w' := by
  have hG' := Lib.hid hG
  obtain ⟨A, c, rfl, -, -⟩ := hG.1
  obtain ⟨FA, fc, rfl, -, -⟩ := hG.2.1
  obtain ⟨MA, mc, rfl, -, -⟩ := hG.2.2
  have hv' := Lib.hid hv
  obtain ⟨TA, tc, rfl, hcap, hRn, hcs⟩ := hv
  have hcs' := Lib.hid hcs
  have hRn' := Lib.hid hRn
  have he' := Lib.hid he
  have hx := Lib.hid (soK_bx w (.slice A g.ns c) (.slice FA g.nf fc) (.slice MA g.nm mc) (.slice TA n tc) e)
  have hl0 := he.len0
  have hl3 := he.len3
  obtain ⟨m, hm⟩ : ∃ m : Nat, e.len = m := ⟨e.len.toNat, by omega⟩
  have hT : Hid (nodeT g N e = if e.op = 13 then appT g e.fn m (sortsN N e) else opT e.op m (sortsN N e)) := by unfold Hid nodeT; rw [hm]; rfl
  have hRT : Hid (ruleT g N e = if e.op = 13 then (if (nodeT g N e).2 = 0 then nodeT g N e else (0, 33)) else nodeT g N e) := rfl
  have hwl : IntKind.i64.wrap e.len = e.len := by rw [IntKind.wrap_i64]; omega
  have hal : Tryz.prog.arrayLen 45 = 3 := by kernel_rfl
  clear hG hcs hRn he
  unfold ndV
  go_enter Tryz.func32, Tryz.ntmps32
  have hm0 : (0 : Int) ≤ (m : Int) := by omega
  have hm3 : m ≤ 3 := by omega
  have hm' := Lib.hid hm
  have hSR : Hid (∀ j, j < m → 0 ≤ e.arg j ∧ (e.arg j).toNat < n ∧ R64 (sortsN N e j)) := fun j hj => by
    have := he'.out.arg j (by rw [hm'.out]; omega)
    refine ⟨this.1, by omega, (hRn'.out _ (by omega)).sort⟩
  clear hm
  go_wp2_with fail
  go_loopw [8, 9] (fun z i wr => ∃ j : Nat, j ≤ m ∧ i = .int .i64 j ∧ Hid (OwnG wr (w.heap.size + 3) 3 1 z j (intC (sortsN N e))) ∧ Hid (Bx w (soK w (.slice A g.ns c) (.slice FA g.nf fc) (.slice MA g.nm mc) (.slice TA n tc) e) wr)) (fun _ i _ => m - (intOf i).toNat)
  case atStart => exact ⟨0, Nat.zero_le _, rfl, OwnG.nil _ _ _ _ _, hx.out⟩
  case round =>
    clear hx
    obtain ⟨j, hj, rfl, hown, hx⟩ := hrel
    obtain ⟨k0, k1, k2, k3, k4, k5, k6⟩ := soK_args hx.out
    rw [hm'.out] at k1
    have hwm : IntKind.i64.wrap (m : Int) = (m : Int) := by rw [IntKind.wrap_i64]; omega
    by_cases hlt : j < m
    · have i1 : decide ((j : Int) < (m : Int)) = true := decide_eq_true (by omega)
      have pj := arg_cell hx.out (j := j) (by omega)
      obtain ⟨ha0, han, hR⟩ := hSR.out j hlt
      obtain ⟨aj, haj⟩ : ∃ aj : Nat, e.arg j = aj := ⟨(e.arg j).toNat, by omega⟩
      have han' : aj < n := by rw [haj] at han; omega
      obtain ⟨b, o, rfl, hbl, hcs⟩ := hcs'.out (by omega)
      obtain ⟨_, _, _, _, _, q5, _, _⟩ := hcs aj han'
      have q := (hx.out.bel.cell (p := ⟨b, o + aj * 8 + 5, none⟩) hbl).trans q5
      have hsj : sortsN N e j = (N aj).sort := by unfold sortsN; rw [haj]; rfl
      rw [haj] at pj
      have hj0 : (0 : Int) ≤ (j : Int) := by omega
      have hj3 : (j : Int) < 3 := by omega
      have hj3n : j < 3 := by omega
      have ha0' : (0 : Int) ≤ (aj : Int) := by omega
      have han2 : (aj : Int) < (n : Int) := by omega
      have hjm : j ≤ 1000000 := by omega
      have hz := hx.out.cells.1.2
      clear hcs q5 ha0 han haj hR
      have hxA := Lib.hid (hx.out.step (((Below.refl wr.heap.size wr).alloc (Nat.le_refl _) (.cells #[.int .i64 (N aj).sort] 3)).drew))
      have hoA := Lib.hid (hown.out.below (((Below.refl wr.heap.size wr).alloc (Nat.le_refl _) (.cells #[.int .i64 (N aj).sort] 3)).drew) (Nat.le_refl _))
      have hcA : Hid (∀ r u, (intC (sortsN N e) j)[r]? = some u → (wr.alloc (.cells #[.int .i64 (N aj).sort] 3)).drew.cell? ⟨wr.heap.size, r, none⟩ = some u) := fun r u hu => lit_cells wr 3 [.int .i64 (N aj).sort] r u (by rw [intC, hsj] at hu; exact hu)
      have h1A : Hid (∀ u ∈ intC (sortsN N e) j, u.oneCell' = true) := fun u hu => by simp [intC] at hu; subst hu; rfl
      have hbA : Hid (w.heap.size + 3 ≤ (wr.alloc (.cells #[.int .i64 (N aj).sort] 3)).drew.heap.size) := by show _ ≤ (wr.alloc _).heap.size; simp; omega
      obtain ⟨i0, hi, hz0, hz1, hz2⟩ := info_parts info_int
      have hi' := Lib.hid hi
      have hz0' := Lib.hid hz0
      have hz1' := Lib.hid hz1
      have hz2' := Lib.hid hz2
      clear hi hz0 hz1 hz2 hsj hz
      go_wp2_with fail
      go_region_law (refine step_appRow rfl (.tmp 19) (.tmp 29) 27 3 rfl i0 _ 8 1 Tryz.underlying27 hi'.out hz0'.out hz1'.out hz2'.out rfl (by decide) (w.heap.size + 3) _ j (intC (sortsN N e)) rfl hoA.out wr.heap.size 1 rfl (by simp) (fun _ => rfl) hcA.out h1A.out hjm (by decide) hbA.out ?_; intro v' w7 hown7 hb7 hg7; have ho7 := Lib.hid hown7; have hx7 := Lib.hid (hxA.out.under hb7 soK_lt (by omega)); clear hown7 hb7 hg7)
      all_goals go_wp2_with fail
      all_goals go_roundw
      all_goals (first
        | exact ⟨j + 1, by omega, by go_num, ho7.out, hx7.out⟩
        | (simp [intOf]; omega)
        | skip)
    · have i1 : decide ((j : Int) < (m : Int)) = false := decide_eq_false (by omega)
      obtain rfl : j = m := by omega
      have hli := Lib.hid (hown.out.ints (by omega) (fun i hi => (hSR.out i hi).2.2))
      clear hown
      by_cases h13 : e.op = 13
      · have d13 : (e.op == 13) = true := by simpa using h13
        have hT2 : Hid (nodeT g N e = appT g e.fn j (sortsN N e)) := by unfold Hid; rw [hT.out, if_pos h13]
        have hRT2 : Hid (ruleT g N e = (if (nodeT g N e).2 = 0 then nodeT g N e else (0, 33))) := by unfold Hid; rw [hRT.out, if_pos h13]
        clear h13 hT hRT
        go_wp2_with fail
        refine (RTApp_any _ _ _ g e.fn _ j (sortsN N e) wr (hG'.out.below hx.out.bel) hli.out).mono ?_
        rintro z w5 ⟨rfl, hb5⟩
        have hx5 := Lib.hid (hx.out.step hb5)
        rw [← hT2.out]
        unfold opV
        generalize nodeT g N e = p at *
        obtain ⟨p1, p2⟩ := p
        dsimp only at hRT2 ⊢
        clear hb5 k0 k1 k2 k3 k4 k5 k6
        by_cases h0 : p2 = 0
        · have d0 : (p2 != 0) = false := by simpa using h0
          have hF : Hid (ruleT g N e = (p1, 0)) := by unfold Hid; rw [hRT2.out, if_pos h0, h0]
          clear h0
          go_wp2_with fail
          exact bodyPost_ret (results_tmp2 rfl _ _ _) rfl ⟨by rw [hF.out]; rfl, hx5.out.bel⟩
        · have d0 : (p2 != 0) = true := by simpa using h0
          have hF : Hid (ruleT g N e = (0, 33)) := by unfold Hid; rw [hRT2.out, if_neg h0]
          clear h0
          go_wp2_with fail
          exact bodyPost_ret (results_tmp2 rfl _ _ _) rfl ⟨by rw [hF.out]; rfl, hx5.out.bel⟩
      · have d13 : (e.op == 13) = false := by simpa using h13
        have hT2 : Hid (nodeT g N e = opT e.op j (sortsN N e)) := by unfold Hid; rw [hT.out, if_neg h13]
        have hRT2 : Hid (ruleT g N e = nodeT g N e) := by unfold Hid; rw [hRT.out, if_neg h13]
        clear h13 hT hRT
        go_wp2_with fail
        refine (RTOp_any e.op _ j (sortsN N e) wr he'.out.R.op hli.out).mono ?_
        rintro z w5 ⟨rfl, hb5⟩
        have hx5 := Lib.hid (hx.out.step hb5)
        rw [← hT2.out]
        unfold opV
        go_wp2_with fail
        exact bodyPost_ret (results_tmp2 rfl _ _ _) rfl ⟨by rw [hRT2.out]; rfl, hx5.out.bel⟩
theorem okNd_rule (g : Sg) (N : Nat → Nd) (e : Nd) : okNd g N e = (((ruleT g N e).2 == 0) && ((ruleT g N e).1 == e.sort)) := by
  obtain ⟨h1, h2⟩ := rule_ok g N e
  unfold okNd
  rw [h1]
  cases h : (nodeT g N e).2 == 0 with
  | false => rfl
  | true => rw [h2 (by simpa using h)]
end Go.Proofs.YtecmoahadckomaaGreat
