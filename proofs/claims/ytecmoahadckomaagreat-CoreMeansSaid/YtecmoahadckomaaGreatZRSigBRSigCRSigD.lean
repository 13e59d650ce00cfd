/- gantryref04.Free, SortName, there. -/
import Derived.Test.YtecmoahadckomaaGreatZRNameToRSig
import Derived.Test.YtecmoahadckomaaGreatZClsW
import Derived.Deep.RegionHeld3
namespace Go.Proofs.YtecmoahadckomaaGreat
open Go.RowKit
set_option maxRecDepth 100000

set_option maxHeartbeats 1000000 in
theorem RFree_any (sv fv mv : Value) (g : Sg) (s : ByteArray) (sort : Bool) (w : World) (hG : SgAt w sv fv mv g) (hs : StrR s) :
    Calls Tryz.prog 60 #[.agg #[sv, fv, mv], .string s, .bool sort] w fun e w' => e = .returned (.int .i64 (freeR g s sort)) ∧ Below w.heap.size w w' := by
  have hx0 := Lib.hid (sgR_bx w sv fv mv)
  have hSo := Lib.hid fun (X : World) (hb : Below w.heap.size w X) => RSort_any sv fv mv g s X (hG.below hb)
  have hFu := Lib.hid fun (X : World) (hb : Below w.heap.size w X) => RFun_any sv fv mv g s X (hG.below hb)
  have hMa := Lib.hid fun (X : World) (hb : Below w.heap.size w X) => RMacro_any sv fv mv g s X (hG.below hb)
  have hM := Lib.hid fun (X : World) => RNMay_any s X hs
  have hRe := Lib.hid fun (X : World) => RReserved_any s X
  have hCo := Lib.hid fun (X : World) => RCore_any s X
  have hR : Hid (freeR g s sort = if useS s = false then 31 else if (if sort then sortHas g s else funHas g s || (macHas g s || coreS s)) = true then 32 else 0) := rfl
  have hU : Hid (useS s = (mayS s && !resS s)) := rfl
  obtain ⟨A, c, rfl, -, -⟩ := hG.1
  obtain ⟨FA, fc, rfl, -, -⟩ := hG.2.1
  obtain ⟨MA, mc, rfl, -, -⟩ := hG.2.2
  clear hG
  generalize mayS s = q1 at *
  generalize resS s = q2 at *
  generalize coreS s = q3 at *
  generalize sortHas g s = q4 at *
  generalize funHas g s = q5 at *
  generalize macHas g s = q6 at *
  obtain ⟨k0, k1, k2⟩ := sgR_cells hx0.out
  go_enter Tryz.func60, Tryz.ntmps60
  go_wp2_with fail
  refine (hM.out _).mono ?_
  rintro e w1 ⟨rfl, rfl⟩
  cases q1 with
  | false =>
    have hF : Hid (freeR g s sort = 31) := by unfold Hid; rw [hR.out, hU.out]; rfl
    go_wp2_with fail
    go_ret
    exact ⟨by rw [hF.out]; rfl, hx0.out.bel⟩
  | true =>
  go_wp2_with fail
  refine (hRe.out _).mono ?_
  rintro e w1 ⟨rfl, rfl⟩
  cases q2 with
  | true =>
    have hF : Hid (freeR g s sort = 31) := by unfold Hid; rw [hR.out, hU.out]; rfl
    go_wp2_with fail
    go_ret
    exact ⟨by rw [hF.out]; rfl, hx0.out.bel⟩
  | false =>
  have hR2 : Hid (freeR g s sort = if (if sort then q4 else q5 || (q6 || q3)) = true then 32 else 0) := by unfold Hid; rw [hR.out, hU.out]; rfl
  clear hR hU
  go_wp2_with fail
  refine (hSo.out _ hx0.out.bel).mono ?_
  rintro e w2 ⟨⟨x, rfl⟩, hb2⟩
  have hx2 := Lib.hid (hx0.out.step hb2)
  clear hb2 hx0 k0 k1 k2
  obtain ⟨k0, k1, k2⟩ := sgR_cells hx2.out
  cases sort with
  | true =>
    cases q4 with
    | true =>
      have hF : Hid (freeR g s true = 32) := hR2.out
      go_wp2_with fail
      go_ret
      exact ⟨by rw [hF.out]; rfl, hx2.out.bel⟩
    | false =>
      have hF : Hid (freeR g s true = 0) := hR2.out
      go_wp2_with fail
      go_ret
      exact ⟨by rw [hF.out]; rfl, hx2.out.bel⟩
  | false =>
    go_wp2_with fail
    refine (hFu.out _ hx2.out.bel).mono ?_
    rintro e w3 ⟨⟨x3, rfl⟩, hb3⟩
    have hx3 := Lib.hid (hx2.out.step hb3)
    clear hb3 hx2 k0 k1 k2
    obtain ⟨k0, k1, k2⟩ := sgR_cells hx3.out
    go_wp2_with fail
    refine (hMa.out _ hx3.out.bel).mono ?_
    rintro e w4 ⟨⟨x4, rfl⟩, hb4⟩
    have hx4 := Lib.hid (hx3.out.step hb4)
    clear hb4 hx3 k0 k1 k2
    cases q5 with
    | true =>
      have hF : Hid (freeR g s false = 32) := hR2.out
      go_wp2_with fail
      go_ret
      exact ⟨by rw [hF.out]; rfl, hx4.out.bel⟩
    | false =>
      cases q6 with
      | true =>
        have hF : Hid (freeR g s false = 32) := hR2.out
        go_wp2_with fail
        go_ret
        exact ⟨by rw [hF.out]; rfl, hx4.out.bel⟩
      | false =>
        go_wp2_with fail
        refine (hCo.out _).mono ?_
        rintro e w5 ⟨rfl, rfl⟩
        cases q3 with
        | true =>
          have hF : Hid (freeR g s false = 32) := hR2.out
          go_wp2_with fail
          go_ret
          exact ⟨by rw [hF.out]; rfl, hx4.out.bel⟩
        | false =>
          have hF : Hid (freeR g s false = 0) := hR2.out
          go_wp2_with fail
          go_ret
          exact ⟨by rw [hF.out]; rfl, hx4.out.bel⟩
theorem RName_any (sv fv mv : Value) (ns : Nat) (S : Nat → ByteArray) (x : Int) (w : World) (hS : StrsAt w sv ns S) (hf : ∃ FA n c, fv = .slice FA n c) (hm : ∃ MA n c, mv = .slice MA n c) (hx : R64 x) :
    Calls Tryz.prog 97 #[.agg #[sv, fv, mv], .int .i64 x] w fun e w' => (∃ s, e = .returned (.tuple #[.string s, .bool (thereB ns x)])) ∧ Below w.heap.size w w' := by
  have hS' := Lib.hid hS
  obtain ⟨A, c, rfl, ⟨hn, hc⟩, -⟩ := hS
  obtain ⟨FA, fn, fc, rfl⟩ := hf
  obtain ⟨MA, mn, mc, rfl⟩ := hm
  have hx0 := Lib.hid (sgR_bx w (.slice A ns c) (.slice FA fn fc) (.slice MA mn mc))
  obtain ⟨k0, k1, k2⟩ := sgR_cells hx0.out
  obtain ⟨x0, x1⟩ := hx
  go_enter Tryz.func97, Tryz.ntmps97
  by_cases h0 : x = 0
  · subst h0
    have hF : Hid (thereB ns 0 = true) := thereB_t ⟨by omega, by omega⟩
    go_wp2_with fail
    exact bodyPost_ret (results_tmp2 rfl _ _ _) rfl ⟨⟨_, by rw [hF.out]; rfl⟩, hx0.out.bel⟩
  have d0 : (x == 0) = false := by simpa using h0
  by_cases h1 : x = 1
  · subst h1
    have hF : Hid (thereB ns 1 = true) := thereB_t ⟨by omega, by omega⟩
    go_wp2_with fail
    exact bodyPost_ret (results_tmp2 rfl _ _ _) rfl ⟨⟨_, by rw [hF.out]; rfl⟩, hx0.out.bel⟩
  have d1 : (x == 1) = false := by simpa using h1
  by_cases h2 : 2 ≤ x
  case neg =>
    have d2 : decide (2 ≤ x) = false := decide_eq_false h2
    have hF : Hid (thereB ns x = false) := thereB_f (by omega)
    clear h0 h1 h2
    go_wp2_with fail
    exact bodyPost_ret (results_tmp2 rfl _ _ _) rfl ⟨⟨_, by rw [hF.out]; rfl⟩, hx0.out.bel⟩
  have d2 : decide (2 ≤ x) = true := decide_eq_true h2
  obtain ⟨i, rfl⟩ : ∃ i : Nat, x = (i : Int) + 2 := ⟨(x - 2).toNat, by omega⟩
  have hw : wrap64 ((i : Int) + 2 - 2) = (i : Int) := by unfold wrap64; omega
  have hw2 : (i : Int) + 2 - 2 = (i : Int) := by omega
  by_cases h3 : i < ns
  · have d3 : decide ((i : Int) < (ns : Int)) = true := decide_eq_true (by omega)
    have d3n : decide (i < ns) = true := decide_eq_true h3
    have hF : Hid (thereB ns ((i : Int) + 2) = true) := thereB_t ⟨by omega, by omega⟩
    have hi0 : (0 : Int) ≤ (i : Int) := by omega
    have hi1 : (i : Int) < (ns : Int) := by omega
    obtain ⟨b, o, cc, e, hb, hst⟩ := RowAt.at_ hS'.out h3
    injection e with e _ ec
    subst e; subst ec
    have p0 := (hx0.out.bel.cell (p := ⟨b, o + i * 1, none⟩) hb).trans hst.1
    rw [Nat.mul_one] at p0
    clear h0 h1 h2 hst
    go_wp2_with fail
    exact bodyPost_ret (results_tmp2 rfl _ _ _) rfl ⟨⟨_, by rw [hF.out]; rfl⟩, hx0.out.bel⟩
  · have d3 : decide ((i : Int) < (ns : Int)) = false := decide_eq_false (by omega)
    have d3n : decide (i < ns) = false := decide_eq_false h3
    have hF : Hid (thereB ns ((i : Int) + 2) = false) := thereB_f (by omega)
    clear h0 h1 h2
    go_wp2_with fail
    exact bodyPost_ret (results_tmp2 rfl _ _ _) rfl ⟨⟨_, by rw [hF.out]; rfl⟩, hx0.out.bel⟩
theorem RThere_any (sv fv mv : Value) (ns : Nat) (S : Nat → ByteArray) (x : Int) (w : World) (hS : StrsAt w sv ns S) (hf : ∃ FA n c, fv = .slice FA n c) (hm : ∃ MA n c, mv = .slice MA n c) (hx : R64 x) :
    Calls Tryz.prog 88 #[.agg #[sv, fv, mv], .int .i64 x] w fun e w' => e = .returned (.bool (thereB ns x)) ∧ Below w.heap.size w w' := by
  have hx0 := Lib.hid (sgR_bx w sv fv mv)
  have hN := Lib.hid (RName_any sv fv mv ns S x _ (hS.below hx0.out.bel) hf hm hx)
  obtain ⟨A, c, rfl, ⟨hn, hc⟩, -⟩ := hS
  obtain ⟨FA, fn, fc, rfl⟩ := hf
  obtain ⟨MA, mn, mc, rfl⟩ := hm
  obtain ⟨k0, k1, k2⟩ := sgR_cells hx0.out
  generalize thereB ns x = q at *
  go_enter Tryz.func88, Tryz.ntmps88
  go_wp2_with fail
  refine hN.out.mono ?_
  rintro e w2 ⟨⟨s, rfl⟩, hb2⟩
  have hx2 := Lib.hid (hx0.out.step hb2)
  go_wp2_with fail
  go_ret
  exact ⟨rfl, hx2.out.bel⟩
end Go.Proofs.YtecmoahadckomaaGreat

namespace Go.Proofs.YtecmoahadckomaaGreat
open Go.RowKit
set_option maxRecDepth 100000

set_option maxHeartbeats 4000000 in
theorem RFn_any (A FA MA : Option Addr) (ns c fn fc mn mc : Nat) (S : Nat → ByteArray) (f : Fn) (w : World) (hS : StrsAt w (.slice A ns c) ns S) (hfR : FnR f) :
    Calls Tryz.prog 61 #[.agg #[.slice A ns c, .slice FA fn fc, .slice MA mn mc], fnV f] w fun e w' => e = .returned (.bool (funB ns f)) ∧ Below w.heap.size w w' := by
  obtain ⟨fv, hfv⟩ : ∃ fv, fv = Value.slice FA fn fc := ⟨_, rfl⟩
  obtain ⟨mv, hmv⟩ : ∃ mv, mv = Value.slice MA mn mc := ⟨_, rfl⟩
  have hTh := Lib.hid fun (y : Int) (hy : R64 y) (X : World) (hb : Below w.heap.size w X) => RThere_any (.slice A ns c) fv mv ns S y X (hS.below hb) ⟨FA, fn, fc, hfv⟩ ⟨MA, mn, mc, hmv⟩ hy
  have hx0 : Hid (Bx w (fbox w A ns c fv mv f) ((w.alloc (.cells #[.slice A ns c, fv, mv] 26)).alloc (.cells #[.string f.name, .int .i64 f.len, .int .i64 f.a0, .int .i64 f.a1, .int .i64 f.a2, .int .i64 f.res] 81))) :=
    (((Bx.nil w).row #[.slice A ns c, fv, mv] 26).row #[.string f.name, .int .i64 f.len, .int .i64 f.a0, .int .i64 f.a1, .int .i64 f.a2, .int .i64 f.res] 81).cast (by simp [rowK, fbox])
  subst hfv hmv
  have hK0 := Lib.hid fun (x : World) (h : Bx w (fbox w A ns c (.slice FA fn fc) (.slice MA mn mc) f) x) => show x.cell? ⟨w.heap.size, 0, none⟩ = some (.slice A ns c) ∧ x.cell? ⟨w.heap.size, 1, none⟩ = some (.slice FA fn fc) ∧ x.cell? ⟨w.heap.size, 2, none⟩ = some (.slice MA mn mc) ∧ x.cell? ⟨w.heap.size + 1, 1, none⟩ = some (.int .i64 f.len) ∧ x.cell? ⟨w.heap.size + 1, 5, none⟩ = some (.int .i64 f.res) ∧ (∀ j, j < 3 → x.cell? ⟨w.heap.size + 1, 2 + j, none⟩ = some (.int .i64 (f.arg j))) by
    obtain ⟨⟨c0, -⟩, ⟨c1, -⟩, ⟨c2, -⟩, ⟨c3, -⟩, ⟨c4, -⟩, ⟨c5, -⟩, ⟨c6, -⟩, ⟨c7, -⟩, ⟨c8, -⟩, -⟩ := h.cells
    exact ⟨c6, c7, c8, c1, c5, fun j hj => by match j, hj with | 0, _ => exact c2 | 1, _ => exact c3 | 2, _ => exact c4⟩
  have hlen := Lib.hid fun h => funB_len (ns := ns) (f := f) h
  have hresF := Lib.hid fun h => funB_res (ns := ns) (f := f) h
  have hargF := Lib.hid fun i (hi : i < 3) h => funB_arg (ns := ns) (f := f) hi h
  have hyes := Lib.hid fun h1 h2 h3 => funB_yes (ns := ns) (f := f) h1 h2 h3
  have hfR' := Lib.hid hfR
  unfold fnV
  clear hS hfR
  obtain ⟨k0, k1, k2, k3, k4, -⟩ := hK0.out _ hx0.out
  go_enter Tryz.func61, Tryz.ntmps61
  by_cases h1 : f.len < 0
  · have d1 : decide (f.len < 0) = true := decide_eq_true h1
    have hF : Hid (funB ns f = false) := hlen.out (by omega)
    clear h1
    go_wp2_with fail
    go_ret
    exact ⟨by rw [hF.out]; rfl, hx0.out.bel⟩
  have d1 : decide (f.len < 0) = false := decide_eq_false h1
  by_cases h2 : 3 < f.len
  · have d2 : decide (3 < f.len) = true := decide_eq_true h2
    have hF : Hid (funB ns f = false) := hlen.out (by omega)
    clear h1 h2
    go_wp2_with fail
    go_ret
    exact ⟨by rw [hF.out]; rfl, hx0.out.bel⟩
  have d2 : decide (3 < f.len) = false := decide_eq_false h2
  have hl : Hid (0 ≤ f.len ∧ f.len ≤ 3) := ⟨by omega, by omega⟩
  have hTr := Lib.hid (hTh.out f.res hfR'.out.res _ hx0.out.bel)
  clear h1 h2
  cases hr : thereB ns f.res with
  | false =>
    have hF : Hid (funB ns f = false) := hresF.out hr
    rw [hr] at hTr
    clear hr
    go_wp2_with fail
    refine hTr.out.mono ?_
    rintro e w1 ⟨rfl, hb1⟩
    have hx1 := Lib.hid (hx0.out.step hb1)
    go_wp2_with fail
    go_ret
    exact ⟨by rw [hF.out]; rfl, hx1.out.bel⟩
  | true =>
  have hr' := Lib.hid hr
  rw [hr] at hTr
  clear hr
  go_wp2_with fail
  refine hTr.out.mono ?_
  rintro e w1 ⟨rfl, hb1⟩
  have hx1 := Lib.hid (hx0.out.step hb1)
  clear hb1 hTr hx0 k0 k1 k2 k3 k4 d1 d2
  go_wp2_with fail
  go_loopw [5] (fun i wr => ∃ j : Nat, j ≤ 3 ∧ i = .int .i64 j ∧ Hid (∀ k, k < j → fargB ns f k = true) ∧ Hid (Bx w (fbox w A ns c (.slice FA fn fc) (.slice MA mn mc) f) wr)) (fun i _ => 3 - (intOf i).toNat)
  case atStart => exact ⟨0, Nat.zero_le _, rfl, fun k hk => absurd hk (Nat.not_lt_zero _), hx1.out⟩
  case round =>
    clear hx1
    obtain ⟨j, hj, rfl, hall, hx⟩ := hrel
    by_cases hlt : j < 3
    case neg =>
      have i1 : decide ((j : Int) < 3) = false := decide_eq_false (by omega)
      have hF : Hid (funB ns f = true) := hyes.out hl.out hr'.out fun i hi => hall.out i (by omega)
      go_wp2_with fail
      go_ret
      exact ⟨by rw [hF.out]; rfl, hx.out.bel⟩
    have i1 : decide ((j : Int) < 3) = true := decide_eq_true (by omega)
    have hj0 : (0 : Int) ≤ (j : Int) := by omega
    have hj3 : (j : Int) < 3 := by omega
    have hal : Tryz.prog.arrayLen 45 = 3 := by kernel_rfl
    have hK := Lib.hid fun (x : World) (h : Bx w (fbox w A ns c (.slice FA fn fc) (.slice MA mn mc) f) x) => show x.cell? ⟨w.heap.size, 0, none⟩ = some (.slice A ns c) ∧ x.cell? ⟨w.heap.size, 1, none⟩ = some (.slice FA fn fc) ∧ x.cell? ⟨w.heap.size, 2, none⟩ = some (.slice MA mn mc) ∧ x.cell? ⟨w.heap.size + 1, 1, none⟩ = some (.int .i64 f.len) ∧ x.cell? ⟨w.heap.size + 1, 2 + j, none⟩ = some (.int .i64 (f.arg j)) by
      obtain ⟨c0, c1, c2, c3, -, c5⟩ := hK0.out x h
      exact ⟨c0, c1, c2, c3, c5 j hlt⟩
    have hT := Lib.hid fun (X : World) (hb : Below w.heap.size w X) => hTh.out (f.arg j) (by match j, hlt with | 0, _ => exact hfR'.out.a0 | 1, _ => exact hfR'.out.a1 | 2, _ => exact hfR'.out.a2) X hb
    have hfa : Hid (fargB ns f j = if (j : Int) < f.len then thereB ns (f.arg j) else decide (f.arg j = 0)) := rfl
    have hno := Lib.hid (hargF.out j hlt)
    have hstepj := Lib.hid fun (h : fargB ns f j = true) => show ∀ k, k < j + 1 → fargB ns f k = true from fun k hk => by
      by_cases e : k = j
      · subst e; exact h
      · exact hall.out k (by omega)
    generalize hav : f.arg j = av at *
    clear hav hTh hargF hK0 hyes
    obtain ⟨k0, k1, k2, k3, k4⟩ := hK.out wr hx.out
    by_cases hjl : (j : Int) < f.len
    · have e1 : decide ((j : Int) < f.len) = true := decide_eq_true hjl
      have e2 : decide (f.len ≤ (j : Int)) = false := decide_eq_false (by omega)
      have hfa2 : Hid (fargB ns f j = thereB ns av) := by unfold Hid; rw [hfa.out, if_pos hjl]
      clear hjl
      cases hq : thereB ns av with
      | false =>
        rw [hq] at hT hfa2
        have hF := Lib.hid (hno.out hfa2.out)
        clear hq
        go_upto_region 6 with fail
        refine region_cls (fun x => Bx w (fbox w A ns c (.slice FA fn fc) (.slice MA mn mc) f) x) (by kernel_rfl) (by kernel_rfl) hx.out.drew ?_
        repeat (first
          | go_big_quiet_skip
          | (go_big_quiet_want; first
            | (go_big_quiet_op; go_big_quiet_on)
            | (unfold Oper.quiet; apply Exists.intro; refine ⟨fun x hx => ?_, ?_⟩; (obtain ⟨c0, c1, c2, c3, c4⟩ := hK.out x hx; unfold Oper.quietAt; first
                | (go_simp; exact ⟨rfl, rfl⟩)
                | (go_simp; exact rfl)
                | (go_simp; done)
                | (go_simp; go_at_call 88; refine (hT.out x hx.bel).mono ?_; rintro e w' ⟨rfl, hb'⟩; exact ⟨rfl, hx.step hb'⟩)
                | fail); go_simp; go_big_quiet_on)))
        refine wpQuiet_nil ?_
        rintro w8 hx8
        all_goals go_wp2_with fail
        all_goals go_ret
        all_goals exact ⟨by rw [hF.out]; rfl, hx8.bel⟩
      | true =>
        rw [hq] at hT hfa2
        have hS8 := Lib.hid (hstepj.out hfa2.out)
        clear hq
        go_upto_region 6 with fail
        refine region_cls (fun x => Bx w (fbox w A ns c (.slice FA fn fc) (.slice MA mn mc) f) x) (by kernel_rfl) (by kernel_rfl) hx.out.drew ?_
        repeat (first
          | go_big_quiet_skip
          | (go_big_quiet_want; first
            | (go_big_quiet_op; go_big_quiet_on)
            | (unfold Oper.quiet; apply Exists.intro; refine ⟨fun x hx => ?_, ?_⟩; (obtain ⟨c0, c1, c2, c3, c4⟩ := hK.out x hx; unfold Oper.quietAt; first
                | (go_simp; exact ⟨rfl, rfl⟩)
                | (go_simp; exact rfl)
                | (go_simp; done)
                | (go_simp; go_at_call 88; refine (hT.out x hx.bel).mono ?_; rintro e w' ⟨rfl, hb'⟩; exact ⟨rfl, hx.step hb'⟩)
                | fail); go_simp; go_big_quiet_on)))
        refine wpQuiet_nil ?_
        rintro w8 hx8
        all_goals go_wp2_with fail
        go_roundw
        case rel => exact ⟨j + 1, by omega, by go_num, hS8.out, hx8⟩
        case measure => simp [intOf]; omega
    · have e1 : decide ((j : Int) < f.len) = false := decide_eq_false hjl
      have e2 : decide (f.len ≤ (j : Int)) = true := decide_eq_true (by omega)
      have hfa2 : Hid (fargB ns f j = decide (av = 0)) := by unfold Hid; rw [hfa.out, if_neg hjl]
      clear hjl
      by_cases ha : av = 0
      · have e3 : (av != 0) = false := by simpa using ha
        have hS8 := Lib.hid (hstepj.out (by rw [hfa2.out]; exact decide_eq_true ha))
        clear ha
        go_upto_region 6 with fail
        go_quiet (fail)
        go_wp2_with fail
        go_roundw
        case rel => exact ⟨j + 1, by omega, by go_num, hS8.out, hx.out.drewN _⟩
        case measure => simp [intOf]; omega
      · have e3 : (av != 0) = true := by simpa using ha
        have hF := Lib.hid (hno.out (by rw [hfa2.out]; exact decide_eq_false ha))
        clear ha
        go_upto_region 6 with fail
        go_quiet (fail)
        go_wp2_with fail
        go_ret
        exact ⟨by rw [hF.out]; rfl, (hx.out.drewN _).bel⟩
end Go.Proofs.YtecmoahadckomaaGreat

namespace Go.Proofs.YtecmoahadckomaaGreat
open Go.RowKit
set_option maxRecDepth 100000

theorem mac_no {ns : Nat} {m : Mc} (h : ¬ m.np ≤ 3 ∨ thereB ns m.res = false ∨ mayX m.body = false) : macB ns m = false := by
  unfold macB
  rcases h with h | h | h
  · rw [decide_eq_false h]; simp
  · rw [h]; simp
  · rw [h]; simp
theorem mac_yes {ns : Nat} {m : Mc} (h0 : m.np ≤ 3) (h1 : thereB ns m.res = true) (h2 : mayX m.body = true) (h3 : ∀ i, i < m.np → pmB ns m.ps i = true) : macB ns m = true := by
  unfold macB; rw [upTo_yes h3, decide_eq_true h0, h1, h2]; rfl
theorem pm_no {ns : Nat} {ps : Nat → Pm} {i : Nat} (h : useS (ps i).name = false ∨ thereB ns (ps i).sort = false ∨ ∃ k, k < i ∧ (ps k).name = (ps i).name) : pmB ns ps i = false := by
  unfold pmB
  rcases h with h | h | h
  · rw [h]; simp
  · rw [h]; simp
  · rw [among_iff.2 h]; rfl
theorem pm_yes {ns : Nat} {ps : Nat → Pm} {i : Nat} (h0 : useS (ps i).name = true) (h1 : thereB ns (ps i).sort = true) (h2 : ∀ k, k < i → (ps k).name ≠ (ps i).name) : pmB ns ps i = true := by
  unfold pmB; rw [h0, h1, among_no h2]; rfl
set_option maxHeartbeats 4000000 in
theorem RMac_any (A FA MA : Option Addr) (ns c fn fc mn mc : Nat) (S : Nat → ByteArray) (m : Mc) (v0 v1 v2 v3 v4 v5 : Value) (w : World) (hS : StrsAt w (.slice A ns c) ns S) (hM : McIs w m v0 v1 v2 v3 v4 v5) :
    Calls Tryz.prog 62 #[.agg #[.slice A ns c, .slice FA fn fc, .slice MA mn mc], .agg #[v0, v1, v2, v3, v4, v5]] w fun e w' => e = .returned (.bool (macB ns m)) ∧ Below w.heap.size w w' := by
  have hTh := Lib.hid fun (y : Int) (hy : R64 y) (X : World) (hb : Below w.heap.size w X) => RThere_any (.slice A ns c) (.slice FA fn fc) (.slice MA mn mc) ns S y X (hS.below hb) ⟨FA, fn, fc, rfl⟩ ⟨MA, mn, mc, rfl⟩ hy
  obtain ⟨rfl, _, hP, rfl, hres, hB⟩ := hM
  obtain ⟨kk, tt, AA, nn, cc, rfl, rfl, rfl⟩ := hB.forms
  have hBd := Lib.hid fun (X : World) (hb : Below w.heap.size w X) => RXMay_any m.body _ _ _ X (SxIs.below hb _ _ _ _ hB)
  have hP' := Lib.hid hP
  have hres' := Lib.hid hres
  obtain ⟨PA, pc, rfl, ⟨hpn, hpc⟩, _⟩ := hP
  have hx0 : Hid (Bx w (mbox w A ns c (.slice FA fn fc) (.slice MA mn mc) (.string m.name) (.slice PA m.np pc) (.int .i64 m.res) (.int .i8 kk) (.string tt) (.slice AA nn cc)) ((w.alloc (.cells #[.slice A ns c, .slice FA fn fc, .slice MA mn mc] 26)).alloc (.cells #[.string m.name, .slice PA m.np pc, .int .i64 m.res, .int .i8 kk, .string tt, .slice AA nn cc] 55))) :=
    (((Bx.nil w).row #[.slice A ns c, .slice FA fn fc, .slice MA mn mc] 26).row #[.string m.name, .slice PA m.np pc, .int .i64 m.res, .int .i8 kk, .string tt, .slice AA nn cc] 55).cast (by simp [rowK, mbox])
  have hno := Lib.hid fun h => mac_no (ns := ns) (m := m) h
  have hyes := Lib.hid fun h0 h1 h2 h3 => mac_yes (ns := ns) (m := m) h0 h1 h2 h3
  have hpm := Lib.hid fun i (hi : i < m.np) h => macB_pm (ns := ns) (m := m) hi h
  clear hS hB hres
  obtain ⟨⟨k0, -⟩, ⟨k1, -⟩, ⟨k2, -⟩, ⟨k3, -⟩, ⟨k4, -⟩, ⟨k5, -⟩, ⟨k6, -⟩, ⟨k7, -⟩, ⟨k8, -⟩, -⟩ := hx0.out.cells
  go_enter Tryz.func62, Tryz.ntmps62
  by_cases h1 : m.np ≤ 3
  case neg =>
    have d1 : decide ((3 : Int) < (m.np : Int)) = true := decide_eq_true (by omega)
    have hF : Hid (macB ns m = false) := hno.out (.inl h1)
    clear h1
    go_wp2_with fail
    go_ret
    exact ⟨by rw [hF.out]; rfl, hx0.out.bel⟩
  have d1 : decide ((3 : Int) < (m.np : Int)) = false := decide_eq_false (by omega)
  have h1' := Lib.hid h1
  clear h1
  have hTr := Lib.hid (hTh.out m.res hres'.out _ hx0.out.bel)
  cases hr : thereB ns m.res with
  | false =>
    have hF : Hid (macB ns m = false) := hno.out (.inr (.inl hr))
    rw [hr] at hTr
    clear hr
    go_wp2_with fail
    refine hTr.out.mono ?_
    rintro e w1 ⟨rfl, hb1⟩
    have hx1 := Lib.hid (hx0.out.step hb1)
    go_wp2_with fail
    go_ret
    exact ⟨by rw [hF.out]; rfl, hx1.out.bel⟩
  | true =>
  have hr' := Lib.hid hr
  rw [hr] at hTr
  clear hr
  go_wp2_with fail
  refine hTr.out.mono ?_
  rintro e w1 ⟨rfl, hb1⟩
  have hx1 := Lib.hid (hx0.out.step hb1)
  clear hb1 hTr hx0 k0 k1 k2 k3 k4 k5 k6 k7 k8
  obtain ⟨⟨k0, -⟩, ⟨k1, -⟩, ⟨k2, -⟩, ⟨k3, -⟩, ⟨k4, -⟩, ⟨k5, -⟩, ⟨k6, -⟩, ⟨k7, -⟩, ⟨k8, -⟩, -⟩ := hx1.out.cells
  have hBb := Lib.hid (hBd.out _ hx1.out.bel)
  cases hq : mayX m.body with
  | false =>
    have hF : Hid (macB ns m = false) := hno.out (.inr (.inr hq))
    rw [hq] at hBb
    clear hq
    go_wp2_with fail
    refine hBb.out.mono ?_
    rintro e w2 ⟨rfl, hb2⟩
    have hx2 := Lib.hid (hx1.out.step hb2)
    go_wp2_with fail
    go_ret
    exact ⟨by rw [hF.out]; rfl, hx2.out.bel⟩
  | true =>
  have hq' := Lib.hid hq
  rw [hq] at hBb
  clear hq
  go_wp2_with fail
  refine hBb.out.mono ?_
  rintro e w2 ⟨rfl, hb2⟩
  have hx2 := Lib.hid (hx1.out.step hb2)
  clear hb2 hBb hBd hx1 k0 k1 k2 k3 k4 k5 k6 k7 k8 hno
  go_wp2_with fail
  go_loopw [5, 6, 7] (fun i _ _ wr => ∃ j : Nat, j ≤ m.np ∧ i = .int .i64 j ∧ Hid (∀ k, k < j → pmB ns m.ps k = true) ∧ Hid (Bx w (mbox w A ns c (.slice FA fn fc) (.slice MA mn mc) (.string m.name) (.slice PA m.np pc) (.int .i64 m.res) (.int .i8 kk) (.string tt) (.slice AA nn cc)) wr)) (fun i _ _ _ => m.np - (intOf i).toNat)
  case atStart => exact ⟨0, Nat.zero_le _, rfl, fun k hk => absurd hk (Nat.not_lt_zero _), hx2.out⟩
  case round =>
    clear hx2
    obtain ⟨j, hj, rfl, hall, hx⟩ := hrel
    obtain ⟨⟨k0, -⟩, ⟨k1, -⟩, ⟨k2, -⟩, ⟨k3, -⟩, ⟨k4, -⟩, ⟨k5, -⟩, ⟨k6, -⟩, ⟨k7, -⟩, ⟨k8, -⟩, -⟩ := hx.out.cells
    by_cases hlt : j < m.np
    case neg =>
      have i1 : decide ((j : Int) < (m.np : Int)) = false := decide_eq_false (by omega)
      have hF : Hid (macB ns m = true) := hyes.out h1'.out hr'.out hq'.out fun i hi => hall.out i (by omega)
      go_wp2_with fail
      go_ret
      exact ⟨by rw [hF.out]; rfl, hx.out.bel⟩
    have i1 : decide ((j : Int) < (m.np : Int)) = true := decide_eq_true (by omega)
    have hj0 : (0 : Int) ≤ (j : Int) := by omega
    have hjn : (j : Int) < (m.np : Int) := by omega
    obtain ⟨pb, po, pcc, e, hpb, ⟨p0, p1⟩, hpN, hpS⟩ := RowAt.at_ hP'.out hlt
    injection e with e _ ec
    subst e; subst ec
    have r0 := (hx.out.bel.cell (p := ⟨pb, po + j * 2, none⟩) hpb).trans p0
    have r1 := (hx.out.bel.cell (p := ⟨pb, po + j * 2 + 1, none⟩) hpb).trans p1
    have hxA := Lib.hid (hx.out.row #[.string (m.ps j).name, .int .i64 (m.ps j).sort] 133)
    have hM1 := Lib.hid fun (X : World) => RNMay_any (m.ps j).name X hpN
    have hM2 := Lib.hid fun (X : World) => RReserved_any (m.ps j).name X
    have hT := Lib.hid fun (X : World) (hb : Below w.heap.size w X) => hTh.out (m.ps j).sort hpS X hb
    have hpmj := Lib.hid (hpm.out j hlt)
    have hpno := Lib.hid fun h => pm_no (ns := ns) (ps := m.ps) (i := j) h
    have hpyes := Lib.hid fun h0 h1 h2 => pm_yes (ns := ns) (ps := m.ps) (i := j) h0 h1 h2
    have hU : Hid (useS (m.ps j).name = (mayS (m.ps j).name && !resS (m.ps j).name)) := rfl
    have hstepj := Lib.hid fun (h : pmB ns m.ps j = true) => show ∀ k, k < j + 1 → pmB ns m.ps k = true from fun k hk => by
      by_cases e : k = j
      · subst e; exact h
      · exact hall.out k (by omega)
    clear p0 p1 hpS hpN hpm hTh
    generalize mayS (m.ps j).name = q1 at *
    generalize resS (m.ps j).name = q2 at *
    clear k0 k1 k2 k3 k4 k5 k6 k7 k8
    obtain ⟨⟨k0, -⟩, ⟨k1, -⟩, ⟨k2, -⟩, ⟨k3, -⟩, ⟨k4, -⟩, ⟨k5, -⟩, ⟨k6, -⟩, ⟨k7, -⟩, ⟨k8, -⟩, -⟩ := hx.out.cells
    go_wp2_with fail
    refine (hM1.out _).mono ?_
    rintro e w3 ⟨rfl, rfl⟩
    clear k0 k1 k2 k3 k4 k5 k6 k7 k8 r0 r1
    obtain ⟨⟨k0, -⟩, ⟨k1, -⟩, ⟨k2, -⟩, ⟨k3, -⟩, ⟨k4, -⟩, ⟨k5, -⟩, ⟨k6, -⟩, ⟨k7, -⟩, ⟨k8, -⟩, -⟩ := hxA.out.right.cells
    obtain ⟨⟨r0, -⟩, ⟨r1, -⟩, -⟩ := hxA.out.left.cells
    cases q1 with
    | false =>
      have hF : Hid (macB ns m = false) := hpmj.out (hpno.out (.inl (by rw [hU.out]; rfl)))
      go_wp2_with fail
      go_ret
      exact ⟨by rw [hF.out]; rfl, hxA.out.bel⟩
    | true =>
    go_wp2_with fail
    refine (hM2.out _).mono ?_
    rintro e w3 ⟨rfl, rfl⟩
    cases q2 with
    | true =>
      have hF : Hid (macB ns m = false) := hpmj.out (hpno.out (.inl (by rw [hU.out]; rfl)))
      go_wp2_with fail
      go_ret
      exact ⟨by rw [hF.out]; rfl, hxA.out.bel⟩
    | false =>
    have hUt : Hid (useS (m.ps j).name = true) := hU.out
    have hTj := Lib.hid (hT.out _ hxA.out.bel)
    cases hq3 : thereB ns (m.ps j).sort with
    | false =>
      have hF : Hid (macB ns m = false) := hpmj.out (hpno.out (.inr (.inl hq3)))
      rw [hq3] at hTj
      clear hq3
      go_wp2_with fail
      refine hTj.out.mono ?_
      rintro e w4 ⟨rfl, hb4⟩
      have hx4 := Lib.hid (hxA.out.step hb4)
      go_wp2_with fail
      go_ret
      exact ⟨by rw [hF.out]; rfl, hx4.out.bel⟩
    | true =>
    have hq3' := Lib.hid hq3
    rw [hq3] at hTj
    clear hq3
    go_wp2_with fail
    refine hTj.out.mono ?_
    rintro e w4 ⟨rfl, hb4⟩
    have hx4 := Lib.hid (hxA.out.step hb4)
    have hz := hx.out.bel.size
    clear hb4 hTj hT hxA k0 k1 k2 k3 k4 k5 k6 k7 k8 r0 r1 hM1 hM2
    go_wp2_with fail
    go_loopw [7] (fun i w9 => ∃ k : Nat, k ≤ j ∧ i = .int .i64 k ∧ Hid (∀ r, r < k → (m.ps r).name ≠ (m.ps j).name) ∧ Hid (Bx w (rowK wr.heap.size [.string (m.ps j).name, .int .i64 (m.ps j).sort] 0 ++ mbox w A ns c (.slice FA fn fc) (.slice MA mn mc) (.string m.name) (.slice (some ⟨pb, po, none⟩) m.np pc) (.int .i64 m.res) (.int .i8 kk) (.string tt) (.slice AA nn cc)) w9)) (fun i _ => j - (intOf i).toNat)
    case atStart => exact ⟨0, Nat.zero_le _, rfl, fun k hk => absurd hk (Nat.not_lt_zero _), hx4.out⟩
    case round =>
      clear hx4
      obtain ⟨k, hk, rfl, hne, hx5⟩ := hrel
      obtain ⟨⟨k0, -⟩, ⟨k1, -⟩, ⟨k2, -⟩, ⟨k3, -⟩, ⟨k4, -⟩, ⟨k5, -⟩, ⟨k6, -⟩, ⟨k7, -⟩, ⟨k8, -⟩, -⟩ := hx5.out.right.cells
      obtain ⟨⟨r0, -⟩, ⟨r1, -⟩, -⟩ := hx5.out.left.cells
      by_cases hkj : k < j
      · have i2 : decide ((k : Int) < (j : Int)) = true := decide_eq_true (by omega)
        have i2n : decide (k < j) = true := decide_eq_true hkj
        have hk0 : (0 : Int) ≤ (k : Int) := by omega
        have hkn : (k : Int) < (m.np : Int) := by omega
        have hkn' : k < m.np := by omega
        obtain ⟨pb', po', pcc, e, hpb', ⟨p0, p1⟩, hpN, hpS⟩ := RowAt.at_ hP'.out hkn'
        injection e with e _ ec
        injection e with e
        injection e with ea eb
        subst ea; subst eb; subst ec
        have s0 := (hx5.out.bel.cell (p := ⟨pb, po + k * 2, none⟩) hpb').trans p0
        clear p0 p1 hpN hpS
        by_cases he : (m.ps k).name = (m.ps j).name
        · have e1 := same_yes' he
          have hF : Hid (macB ns m = false) := hpmj.out (hpno.out (.inr (.inr ⟨k, hkj, he⟩)))
          clear he
          go_wp2_with fail
          go_quiet (fail)
          go_wp2_with fail
          go_ret
          exact ⟨by rw [hF.out]; rfl, (hx5.out.drewN _).bel⟩
        · have e1 := same_no' he
          have he' := Lib.hid he
          clear he
          go_wp2_with fail
          go_quiet (fail)
          go_wp2_with fail
          go_roundw
          case rel => exact ⟨k + 1, by omega, by go_num, fun r hr => by
            by_cases e : r = k
            · subst e; exact he'.out
            · exact hne.out r (by omega), hx5.out.drewN _⟩
          case measure => simp [intOf]; omega
      · have i2 : decide ((k : Int) < (j : Int)) = false := decide_eq_false (by omega)
        have i2n : decide (k < j) = false := decide_eq_false hkj
        have hS8 := Lib.hid (hstepj.out (hpyes.out hUt.out hq3'.out fun r hr => hne.out r (by omega)))
        go_wp2_with fail
        go_roundw
        case rel => exact ⟨j + 1, by omega, by go_num, hS8.out, hx5.out.right⟩
        case measure => simp [intOf]; omega
end Go.Proofs.YtecmoahadckomaaGreat
