/- gantryref06.Op: the walk. -/
import Derived.Test.YtofcjpfbbeamnaaZTyWR6Op
import Derived.Laws.ResultCell
namespace Go.Proofs.Ytofcjpfbbeamnaa
open Go.RowKit
set_option maxRecDepth 100000

set_option maxHeartbeats 16000000 in
theorem RTOp_any (op : Int) (v : Value) (m : Nat) (f : Nat → Int) (w : World) (h8 : R8 op) (hv : IntsAt w v m f) :
    Calls Try.prog 96 #[.int .i8 op, v] w fun e w' => e = .returned (opV (opT op m f)) ∧ Below w.heap.size w w' := by
  have hv' := Lib.hid hv
  have hMa := Lib.hid fun (x : World) => RMany_any op x h8
  have hAl := Lib.hid fun (n s : Int) => RAlike_any v m f n s w hv
  obtain ⟨U, cu, rfl, hm, hRu, hcu⟩ := hv
  have hcu' := Lib.hid hcu
  have hx0 := Lib.hid (Bx.nil w)
  clear hcu hRu h8
  by_cases hgood : tyK op = true ∧ (m : Int) = tyN op
  case neg =>
    have hF : Hid (opT op m f = (0, 2)) := by
      unfold Hid opT
      by_cases hk : tyK op = false
      · rw [if_pos hk]
      · rw [if_neg hk, if_pos (fun h => hgood ⟨by simpa using hk, h⟩)]
    cases hk : tyK op with
    | false =>
      have hM : manyR op = -1 := by unfold manyR; rw [hk]; rfl
      rw [hM] at hMa
      clear hgood hk hM
      go_enter Try.func96, Try.ntmps96
      go_wp2_with fail
      refine (hMa.out _).mono ?_
      rintro e w1 ⟨rfl, rfl⟩
      go_wp2_with fail
      exact bodyPost_ret (results_tmp2 rfl _ _ _) rfl ⟨by rw [hF.out]; rfl, hx0.out.bel⟩
    | true =>
      have hM : manyR op = tyN op := by unfold manyR; rw [hk]; rfl
      rw [hM] at hMa
      have hl := tyN_le op
      have hmn : (m : Int) ≠ tyN op := fun h => hgood ⟨hk, h⟩
      clear hgood hk hM
      generalize tyN op = rn at *
      have d0 : decide (rn < 0) = false := decide_eq_false (by omega)
      have d1 : ((m : Int) != rn) = true := by simpa using hmn
      clear hmn
      go_enter Try.func96, Try.ntmps96
      go_wp2_with fail
      refine (hMa.out _).mono ?_
      rintro e w1 ⟨rfl, rfl⟩
      go_wp2_with fail
      exact bodyPost_ret (results_tmp2 rfl _ _ _) rfl ⟨by rw [hF.out]; rfl, hx0.out.bel⟩
  obtain ⟨hk, hmn⟩ := hgood
  have hM : manyR op = (m : Int) := by unfold manyR; rw [hk, hmn]; rfl
  have hl := tyN_le op
  rw [← hmn] at hl
  have hm3 : m ≤ 3 := by omega
  rw [hM] at hMa
  have hneg := Lib.hid fun i (hi : i < m) (h : f i < 0) => opT_neg hk hmn (neg_yes hi h)
  have hk' := Lib.hid hk
  have hmn' := Lib.hid hmn
  have d0 : decide ((m : Int) < 0) = false := decide_eq_false (by omega)
  have d1 : ((m : Int) != (m : Int)) = false := by simp
  clear hk hmn hM hl
  go_enter Try.func96, Try.ntmps96
  go_wp2_with fail
  refine (hMa.out _).mono ?_
  rintro e w1 ⟨rfl, rfl⟩
  go_wp2_with fail
  go_loopw [7] (fun i wr => ∃ j : Nat, j ≤ m ∧ i = .int .i64 j ∧ wr = w1 ∧ Hid (∀ k, k < j → 0 ≤ f k)) (fun i _ => m - (intOf i).toNat)
  case atStart => exact ⟨0, Nat.zero_le _, rfl, rfl, fun k hk => absurd hk (Nat.not_lt_zero _)⟩
  case round =>
    obtain ⟨j, hj, rfl, rfl, hall⟩ := hrel
    by_cases hlt : j < m
    · have i1 : decide ((j : Int) < (m : Int)) = true := decide_eq_true (by omega)
      obtain ⟨b, o, rfl, hb, hc⟩ := hcu'.out (by omega)
      have rj := hc j hlt
      clear hc
      by_cases he : f j < 0
      · have e1 : decide (f j < 0) = true := decide_eq_true he
        have hF := Lib.hid (hneg.out j hlt he)
        clear he
        go_wp2_with fail
        exact bodyPost_ret (results_tmp2 rfl _ _ _) rfl ⟨by rw [hF.out]; rfl, hx0.out.bel⟩
      · have e1 : decide (f j < 0) = false := decide_eq_false he
        have he' := Lib.hid (show 0 ≤ f j by omega)
        clear he
        go_wp2_with fail
        go_roundw
        case rel => exact ⟨j + 1, by omega, by go_num, trivial, fun k hk => by
          by_cases e : k = j
          · subst e; exact he'.out
          · exact hall.out k (by omega)⟩
        case measure => simp [intOf]; omega
    · have i1 : decide ((j : Int) < (m : Int)) = false := decide_eq_false (by omega)
      have hn := Lib.hid (neg_no (m := m) (f := f) fun i hi => hall.out i (by omega))
      obtain rfl : j = m := by omega
      have hop := tyop_cases hk'.out
      have hmn2 := hmn'.out
      clear hMa hneg d0 d1 hlt hall
      by_cases hA : op = 0 ∨ op = 10
      · have hj0 : j = 0 := by rcases hA with rfl | rfl <;> (simp [tyN] at hmn2; omega)
        have hF := Lib.hid (opT_none (f := f) hA hj0)
        clear hop hmn2 hk' hmn' hj hm hm3
        rcases hA with rfl | rfl
        all_goals
          go_wp2_with fail
          exact bodyPost_ret (results_tmp2 rfl _ _ _) rfl ⟨by rw [hF.out]; rfl, hx0.out.bel⟩
      by_cases h6 : op = 6
      · subst h6
        have hj2 : j = 2 := by simp [tyN] at hmn2; omega
        have hF := Lib.hid (opT_eq (f := f) hj2 hn.out)
        subst hj2
        clear hop hmn2 hk' hmn' hj hm hm3 hA
        obtain ⟨b, o, rfl, hb, hc⟩ := hcu'.out (by omega)
        have r0 := hc 0 (by omega)
        have r1 := hc 1 (by omega)
        rw [Nat.add_zero] at r0
        clear hc
        by_cases he : f 0 = f 1
        · have e1 : (f 0 == f 1) = true := by simpa using he
          have hF2 : Hid (opT 6 2 f = (0, 0)) := by unfold Hid; rw [hF.out, if_pos he]
          clear he
          go_wp2_with fail
          go_quiet (fail)
          go_wp2_with fail
          exact bodyPost_ret (results_tmp2 rfl _ _ _) rfl ⟨by rw [hF2.out]; rfl, (hx0.out.drewN _).bel⟩
        · have e1 : (f 0 == f 1) = false := by simpa using he
          have hF2 : Hid (opT 6 2 f = (0, 33)) := by unfold Hid; rw [hF.out, if_neg he]
          clear he
          go_wp2_with fail
          go_quiet (fail)
          go_wp2_with fail
          exact bodyPost_ret (results_tmp2 rfl _ _ _) rfl ⟨by rw [hF2.out]; rfl, (hx0.out.drewN _).bel⟩
      by_cases h7 : op = 7
      · subst h7
        have hj2 : j = 3 := by simp [tyN] at hmn2; omega
        have hF := Lib.hid (opT_seven (f := f) hj2 hn.out)
        subst hj2
        clear hop hmn2 hk' hmn' hj hm hm3 hA h6
        obtain ⟨b, o, rfl, hb, hc⟩ := hcu'.out (by omega)
        have r0 := hc 0 (by omega)
        have r1 := hc 1 (by omega)
        have r2 := hc 2 (by omega)
        rw [Nat.add_zero] at r0
        clear hc
        by_cases he0 : f 0 = 0
        · have e0 : (f 0 == 0) = true := by simpa using he0
          by_cases he : f 1 = f 2
          · have e1 : (f 1 == f 2) = true := by simpa using he
            have hF2 : Hid (opT 7 3 f = (f 1, 0)) := by unfold Hid; rw [hF.out, if_pos ⟨he0, he⟩]
            clear he he0
            go_wp2_with fail
            go_quiet (fail)
            go_wp2_with fail
            exact bodyPost_ret (results_tmp2 rfl _ _ _) rfl ⟨by rw [hF2.out]; rfl, (hx0.out.drewN _).bel⟩
          · have e1 : (f 1 == f 2) = false := by simpa using he
            have hF2 : Hid (opT 7 3 f = (0, 33)) := by unfold Hid; rw [hF.out, if_neg (fun h => he h.2)]
            clear he he0
            go_wp2_with fail
            go_quiet (fail)
            go_wp2_with fail
            exact bodyPost_ret (results_tmp2 rfl _ _ _) rfl ⟨by rw [hF2.out]; rfl, (hx0.out.drewN _).bel⟩
        · have e0 : (f 0 == 0) = false := by simpa using he0
          have hF2 : Hid (opT 7 3 f = (0, 33)) := by unfold Hid; rw [hF.out, if_neg (fun h => he0 h.1)]
          clear he0
          go_wp2_with fail
          go_quiet (fail)
          go_wp2_with fail
          exact bodyPost_ret (results_tmp2 rfl _ _ _) rfl ⟨by rw [hF2.out]; rfl, (hx0.out.drewN _).bel⟩
      have hop2 : op = 1 ∨ op = 2 ∨ op = 3 ∨ op = 4 ∨ op = 5 ∨ op = 8 ∨ op = 9 ∨ op = 11 ∨ op = 12 := by omega
      have hj0 : 0 < j := by
        have : tyN op = 1 ∨ tyN op = 2 := by rcases hop2 with rfl | rfl | rfl | rfl | rfl | rfl | rfl | rfl | rfl <;> decide
        omega
      have ha : tyA op ≠ -1 := by rcases hop2 with rfl | rfl | rfl | rfl | rfl | rfl | rfl | rfl | rfl <;> decide
      have hF := Lib.hid (opT_all (f := f) hk'.out h7 hmn2 hj0 ha hn.out)
      clear hk' hmn' hm hn ha h6 h7 hA hop hcu' hv'
      rcases hop2 with rfl | rfl | rfl | rfl | rfl | rfl | rfl | rfl | rfl
      · have hG : Hid (opT 1 j f = if alikeR j f (j : Int) 0 = true then (0, 0) else (0, 33)) := by unfold Hid; exact hF.out
        clear hF hmn2
        go_wp2_with fail
        refine (hAl.out _ _).mono ?_
        rintro e w2 ⟨rfl, rfl⟩
        generalize alikeR j f (j : Int) 0 = q at *
        cases q with
        | true =>
          have hF2 : Hid (opT 1 j f = (0, 0)) := hG.out
          go_wp2_with fail
          exact bodyPost_ret (results_tmp2 rfl _ _ _) rfl ⟨by rw [hF2.out]; rfl, hx0.out.bel⟩
        | false =>
          have hF2 : Hid (opT 1 j f = (0, 33)) := hG.out
          go_wp2_with fail
          exact bodyPost_ret (results_tmp2 rfl _ _ _) rfl ⟨by rw [hF2.out]; rfl, hx0.out.bel⟩
      · have hG : Hid (opT 2 j f = if alikeR j f (j : Int) 0 = true then (0, 0) else (0, 33)) := by unfold Hid; exact hF.out
        clear hF hmn2
        go_wp2_with fail
        refine (hAl.out _ _).mono ?_
        rintro e w2 ⟨rfl, rfl⟩
        generalize alikeR j f (j : Int) 0 = q at *
        cases q with
        | true =>
          have hF2 : Hid (opT 2 j f = (0, 0)) := hG.out
          go_wp2_with fail
          exact bodyPost_ret (results_tmp2 rfl _ _ _) rfl ⟨by rw [hF2.out]; rfl, hx0.out.bel⟩
        | false =>
          have hF2 : Hid (opT 2 j f = (0, 33)) := hG.out
          go_wp2_with fail
          exact bodyPost_ret (results_tmp2 rfl _ _ _) rfl ⟨by rw [hF2.out]; rfl, hx0.out.bel⟩
      · have hG : Hid (opT 3 j f = if alikeR j f (j : Int) 0 = true then (0, 0) else (0, 33)) := by unfold Hid; exact hF.out
        clear hF hmn2
        go_wp2_with fail
        refine (hAl.out _ _).mono ?_
        rintro e w2 ⟨rfl, rfl⟩
        generalize alikeR j f (j : Int) 0 = q at *
        cases q with
        | true =>
          have hF2 : Hid (opT 3 j f = (0, 0)) := hG.out
          go_wp2_with fail
          exact bodyPost_ret (results_tmp2 rfl _ _ _) rfl ⟨by rw [hF2.out]; rfl, hx0.out.bel⟩
        | false =>
          have hF2 : Hid (opT 3 j f = (0, 33)) := hG.out
          go_wp2_with fail
          exact bodyPost_ret (results_tmp2 rfl _ _ _) rfl ⟨by rw [hF2.out]; rfl, hx0.out.bel⟩
      · have hG : Hid (opT 4 j f = if alikeR j f (j : Int) 0 = true then (0, 0) else (0, 33)) := by unfold Hid; exact hF.out
        clear hF hmn2
        go_wp2_with fail
        refine (hAl.out _ _).mono ?_
        rintro e w2 ⟨rfl, rfl⟩
        generalize alikeR j f (j : Int) 0 = q at *
        cases q with
        | true =>
          have hF2 : Hid (opT 4 j f = (0, 0)) := hG.out
          go_wp2_with fail
          exact bodyPost_ret (results_tmp2 rfl _ _ _) rfl ⟨by rw [hF2.out]; rfl, hx0.out.bel⟩
        | false =>
          have hF2 : Hid (opT 4 j f = (0, 33)) := hG.out
          go_wp2_with fail
          exact bodyPost_ret (results_tmp2 rfl _ _ _) rfl ⟨by rw [hF2.out]; rfl, hx0.out.bel⟩
      · have hG : Hid (opT 5 j f = if alikeR j f (j : Int) 0 = true then (0, 0) else (0, 33)) := by unfold Hid; exact hF.out
        clear hF hmn2
        go_wp2_with fail
        refine (hAl.out _ _).mono ?_
        rintro e w2 ⟨rfl, rfl⟩
        generalize alikeR j f (j : Int) 0 = q at *
        cases q with
        | true =>
          have hF2 : Hid (opT 5 j f = (0, 0)) := hG.out
          go_wp2_with fail
          exact bodyPost_ret (results_tmp2 rfl _ _ _) rfl ⟨by rw [hF2.out]; rfl, hx0.out.bel⟩
        | false =>
          have hF2 : Hid (opT 5 j f = (0, 33)) := hG.out
          go_wp2_with fail
          exact bodyPost_ret (results_tmp2 rfl _ _ _) rfl ⟨by rw [hF2.out]; rfl, hx0.out.bel⟩
      · have hG : Hid (opT 8 j f = if alikeR j f 2 1 = true then (0, 0) else (0, 33)) := by unfold Hid; rw [show (j : Int) = 2 from hmn2] at hF; exact hF.out
        clear hF hmn2
        go_wp2_with fail
        refine (hAl.out _ _).mono ?_
        rintro e w2 ⟨rfl, rfl⟩
        generalize alikeR j f 2 1 = q at *
        cases q with
        | true =>
          have hF2 : Hid (opT 8 j f = (0, 0)) := hG.out
          go_wp2_with fail
          exact bodyPost_ret (results_tmp2 rfl _ _ _) rfl ⟨by rw [hF2.out]; rfl, hx0.out.bel⟩
        | false =>
          have hF2 : Hid (opT 8 j f = (0, 33)) := hG.out
          go_wp2_with fail
          exact bodyPost_ret (results_tmp2 rfl _ _ _) rfl ⟨by rw [hF2.out]; rfl, hx0.out.bel⟩
      · have hG : Hid (opT 9 j f = if alikeR j f 2 1 = true then (0, 0) else (0, 33)) := by unfold Hid; rw [show (j : Int) = 2 from hmn2] at hF; exact hF.out
        clear hF hmn2
        go_wp2_with fail
        refine (hAl.out _ _).mono ?_
        rintro e w2 ⟨rfl, rfl⟩
        generalize alikeR j f 2 1 = q at *
        cases q with
        | true =>
          have hF2 : Hid (opT 9 j f = (0, 0)) := hG.out
          go_wp2_with fail
          exact bodyPost_ret (results_tmp2 rfl _ _ _) rfl ⟨by rw [hF2.out]; rfl, hx0.out.bel⟩
        | false =>
          have hF2 : Hid (opT 9 j f = (0, 33)) := hG.out
          go_wp2_with fail
          exact bodyPost_ret (results_tmp2 rfl _ _ _) rfl ⟨by rw [hF2.out]; rfl, hx0.out.bel⟩
      · have hG : Hid (opT 11 j f = if alikeR j f 1 1 = true then (1, 0) else (0, 33)) := by unfold Hid; rw [show (j : Int) = 1 from hmn2] at hF; exact hF.out
        clear hF hmn2
        go_wp2_with fail
        refine (hAl.out _ _).mono ?_
        rintro e w2 ⟨rfl, rfl⟩
        generalize alikeR j f 1 1 = q at *
        cases q with
        | true =>
          have hF2 : Hid (opT 11 j f = (1, 0)) := hG.out
          go_wp2_with fail
          exact bodyPost_ret (results_tmp2 rfl _ _ _) rfl ⟨by rw [hF2.out]; rfl, hx0.out.bel⟩
        | false =>
          have hF2 : Hid (opT 11 j f = (0, 33)) := hG.out
          go_wp2_with fail
          exact bodyPost_ret (results_tmp2 rfl _ _ _) rfl ⟨by rw [hF2.out]; rfl, hx0.out.bel⟩
      · have hG : Hid (opT 12 j f = if alikeR j f 2 1 = true then (0, 0) else (0, 33)) := by unfold Hid; rw [show (j : Int) = 2 from hmn2] at hF; exact hF.out
        clear hF hmn2
        go_wp2_with fail
        refine (hAl.out _ _).mono ?_
        rintro e w2 ⟨rfl, rfl⟩
        generalize alikeR j f 2 1 = q at *
        cases q with
        | true =>
          have hF2 : Hid (opT 12 j f = (0, 0)) := hG.out
          go_wp2_with fail
          exact bodyPost_ret (results_tmp2 rfl _ _ _) rfl ⟨by rw [hF2.out]; rfl, hx0.out.bel⟩
        | false =>
          have hF2 : Hid (opT 12 j f = (0, 33)) := hG.out
          go_wp2_with fail
          exact bodyPost_ret (results_tmp2 rfl _ _ _) rfl ⟨by rw [hF2.out]; rfl, hx0.out.bel⟩
end Go.Proofs.Ytofcjpfbbeamnaa
