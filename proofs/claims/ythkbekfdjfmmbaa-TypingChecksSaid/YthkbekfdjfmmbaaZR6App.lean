/- gantryref06.App. -/
import Derived.Test.YthkbekfdjfmmbaaZR6OpR6OpB
import Derived.Test.YthkbekfdjfmmbaaZRCk4ARCk4
namespace Go.Proofs.Ythkbekfdjfmmbaa
open Go.RowKit
set_option maxRecDepth 100000

set_option maxHeartbeats 4000000 in
theorem RTApp_any (sv fv mv : Value) (g : Sg) (f : Int) (v : Value) (m : Nat) (S : Nat → Int) (w : World) (hG : SgAt w sv fv mv g) (hv : IntsAt w v m S) :
    Calls Try.prog 25 #[.agg #[sv, fv, mv], .int .i64 f, v] w fun e w' => e = .returned (opV (appT g f m S)) ∧ Below w.heap.size w w' := by
  have hG' := Lib.hid hG
  obtain ⟨A, c, rfl, -, -⟩ := hG.1
  obtain ⟨FA, fc, rfl, ⟨hfn, hfc⟩, -⟩ := hG.2.1
  obtain ⟨MA, mc, rfl, -, -⟩ := hG.2.2
  have hv' := Lib.hid hv
  obtain ⟨U, cu, rfl, hm, hRu, hcu⟩ := hv
  have hcu' := Lib.hid hcu
  have hx := Lib.hid (sgR_bx w (.slice A g.ns c) (.slice FA g.nf fc) (.slice MA g.nm mc))
  have hC := Lib.hid (RCheck4_any _ _ _ g _ (hG'.out.below hx.out.bel))
  have hR : Hid (appT g f m S = if checkG g = false then (0, 2) else if f < 0 ∨ (g.nf : Int) ≤ f then (0, 2) else if (m : Int) ≠ (g.F f.toNat).len then (0, 2) else if argsB (g.F f.toNat) m S = true then ((g.F f.toNat).res, 0) else (0, 33)) := rfl
  obtain ⟨k0, k1, k2⟩ := sgR_cells hx.out
  clear hcu hRu hG
  go_enter Try.func25, Try.ntmps25
  cases hk : checkG g with
  | false =>
    have hR2 : Hid (appT g f m S = (0, 2)) := by unfold Hid; rw [hR.out, if_pos hk]
    rw [hk] at hC
    go_wp2_with fail
    refine hC.out.mono ?_
    rintro e w1 ⟨rfl, hb1⟩
    have hx1 := Lib.hid (hx.out.step hb1)
    unfold chV
    go_wp2_with fail
    exact bodyPost_ret (results_tmp2 rfl _ _ _) rfl ⟨by rw [hR2.out]; rfl, hx1.out.bel⟩
  | true =>
  have hlen := Lib.hid fun i (hi : i < g.nf) => check_len hk hi
  rw [hk] at hC hR
  clear hk
  unfold chV at hC
  go_wp2_with fail
  refine hC.out.mono ?_
  rintro e w1 ⟨rfl, hb1⟩
  have hx1 := Lib.hid (hx.out.step hb1)
  clear k0 k1 k2 hx hb1
  obtain ⟨k0, k1, k2⟩ := sgR_cells hx1.out
  by_cases hf0 : f < 0
  · have d0 : decide (f < 0) = true := decide_eq_true hf0
    have hR2 : Hid (appT g f m S = (0, 2)) := by unfold Hid; rw [hR.out, if_neg (by simp), if_pos (.inl hf0)]
    clear hf0
    go_wp2_with fail
    exact bodyPost_ret (results_tmp2 rfl _ _ _) rfl ⟨by rw [hR2.out]; rfl, hx1.out.bel⟩
  have d0 : decide (f < 0) = false := decide_eq_false hf0
  by_cases hfn2 : (g.nf : Int) ≤ f
  · have d1 : decide ((g.nf : Int) ≤ f) = true := decide_eq_true hfn2
    have hR2 : Hid (appT g f m S = (0, 2)) := by unfold Hid; rw [hR.out, if_neg (by simp), if_pos (.inr hfn2)]
    clear hf0 hfn2
    go_wp2_with fail
    exact bodyPost_ret (results_tmp2 rfl _ _ _) rfl ⟨by rw [hR2.out]; rfl, hx1.out.bel⟩
  have d1 : decide ((g.nf : Int) ≤ f) = false := decide_eq_false hfn2
  obtain ⟨fi, rfl⟩ : ∃ fi : Nat, f = fi := ⟨f.toNat, by omega⟩
  rw [Int.toNat_natCast] at hR
  have hfi : fi < g.nf := by omega
  have hd : decide (g.nf ≤ fi) = false := decide_eq_false (by omega)
  have hR2 : Hid (appT g fi m S = if (m : Int) ≠ (g.F fi).len then (0, 2) else if argsB (g.F fi) m S = true then ((g.F fi).res, 0) else (0, 33)) := by unfold Hid; rw [hR.out, if_neg (by simp), if_neg (by omega)]
  obtain ⟨hl0, hl3⟩ := hlen.out fi hfi
  clear hf0 hfn2 hR hlen
  obtain ⟨b, o, cc, e, hbl, hfl⟩ := RowAt.at_ hG'.out.2.1 hfi
  injection e with e1 _ e3
  subst e1; subst e3
  have hP := Lib.hid fun (x : World) (h : Bx w (sgR w (.slice A g.ns c) (.slice (some ⟨b, o, none⟩) g.nf fc) (.slice MA g.nm mc)) x) => show FnLies x b (o + fi * 6) (g.F fi) from hfl.1.keep fun o => h.bel.cell (p := ⟨b, o, none⟩) hbl
  obtain ⟨p0, p1, p2, p3, p4, p5⟩ := hP.out _ hx1.out
  clear hfl
  by_cases hml : (m : Int) = (g.F fi).len
  case neg =>
    have d2 : ((m : Int) != (g.F fi).len) = true := by simpa using hml
    have hR3 : Hid (appT g fi m S = (0, 2)) := by unfold Hid; rw [hR2.out, if_pos hml]
    clear hml hR2
    go_wp2_with fail
    exact bodyPost_ret (results_tmp2 rfl _ _ _) rfl ⟨by rw [hR3.out]; rfl, hx1.out.bel⟩
  have d2 : ((m : Int) != (g.F fi).len) = false := by simpa using hml
  have hR3 : Hid (appT g fi m S = if argsB (g.F fi) m S = true then ((g.F fi).res, 0) else (0, 33)) := by unfold Hid; rw [hR2.out, if_neg (fun h => h hml)]
  have hm3 : m ≤ 3 := by omega
  clear hml hR2
  go_wp2_with fail
  clear k0 k1 k2 p0 p1 p2 p3 p4 p5 d2
  go_loopw [8] (fun i wr => ∃ j : Nat, j ≤ m ∧ i = .int .i64 j ∧ Hid (∀ k, k < j → S k = (g.F fi).arg k) ∧ Hid (Bx w (sgR w (.slice A g.ns c) (.slice (some ⟨b, o, none⟩) g.nf fc) (.slice MA g.nm mc)) wr)) (fun i _ => m - (intOf i).toNat)
  case atStart => exact ⟨0, Nat.zero_le _, rfl, fun k hk => absurd hk (Nat.not_lt_zero _), hx1.out⟩
  case round =>
    clear hx1
    obtain ⟨j, hj, rfl, hall, hx⟩ := hrel
    obtain ⟨k0, k1, k2⟩ := sgR_cells hx.out
    obtain ⟨p0, p1, p2, p3, p4, p5⟩ := hP.out _ hx.out
    by_cases hlt : j < m
    · have i1 : decide ((j : Int) < (m : Int)) = true := decide_eq_true (by omega)
      obtain ⟨bb, oo, rfl, hbb, hc⟩ := hcu'.out (by omega)
      have rj := (hx.out.bel.cell (p := ⟨bb, oo + j, none⟩) hbb).trans (hc j hlt)
      have hj3 : j < 3 := by omega
      have pj : wr.cell? ⟨b, o + fi * 6 + 2 + j, none⟩ = some (.int .i64 ((g.F fi).arg j)) := by
        match j, hj3 with
        | 0, _ => exact p2
        | 1, _ => exact p3
        | 2, _ => exact p4
      have hj0 : (0 : Int) ≤ (j : Int) := by omega
      have hjm : (j : Int) < (m : Int) := by omega
      have hj3' : (j : Int) < 3 := by omega
      have hf0 : (0 : Int) ≤ (fi : Int) := by omega
      have hfn' : (fi : Int) < (g.nf : Int) := by omega
      clear hc p0 p1 p2 p3 p4 p5
      by_cases he : S j = (g.F fi).arg j
      · have e1 : (S j != (g.F fi).arg j) = false := by simpa using he
        have he' := Lib.hid he
        clear he
        go_wp2_with fail
        go_quiet (fail)
        go_wp2_with fail
        go_roundw
        case rel => exact ⟨j + 1, by omega, by go_num, fun k hk => by
          by_cases e : k = j
          · subst e; exact he'.out
          · exact hall.out k (by omega), hx.out.drewN _⟩
        case measure => simp [intOf]; omega
      · have e1 : (S j != (g.F fi).arg j) = true := by simpa using he
        have hno : Hid (appT g fi m S = (0, 33)) := by unfold Hid; rw [hR3.out, args_no hlt he]; rfl
        clear he
        go_wp2_with fail
        go_quiet (fail)
        go_wp2_with fail
        exact bodyPost_ret (results_tmp2 rfl _ _ _) rfl ⟨by rw [hno.out]; rfl, (hx.out.drewN _).bel⟩
    · have i1 : decide ((j : Int) < (m : Int)) = false := decide_eq_false (by omega)
      have hyes : Hid (appT g fi m S = ((g.F fi).res, 0)) := by unfold Hid; rw [hR3.out, args_yes (m := m) fun i hi => hall.out i (by omega)]; rfl
      go_wp2_with fail
      exact bodyPost_ret (results_tmp2 rfl _ _ _) rfl ⟨by rw [hyes.out]; rfl, hx.out.bel⟩
end Go.Proofs.Ythkbekfdjfmmbaa
