/- typing.App. -/
import Derived.Test.YtlhnffmbjejphaaGreatZSigD
import Derived.Test.YtlhnffmbjejphaaGreatZTyOpTyOpB
import Derived.Test.YtlhnffmbjejphaaGreatZNodeArityStands
import Derived.Test.YtlhnffmbjejphaaGreatZTermBToTyK
namespace Go.Proofs.YtlhnffmbjejphaaGreat
open Go.RowKit
set_option maxRecDepth 100000

set_option maxHeartbeats 4000000 in
theorem TApp_any (sv fv mv : Value) (g : Sg) (f : Int) (v : Value) (m : Nat) (S : Nat → Int) (w : World) (hG : SgAt w sv fv mv g) (hf : FewG g) (hv : IntsAt w v m S) :
    Calls Tryz.prog 104 #[.agg #[sv, fv, mv], .int .i64 f, v] w fun e w' => e = .returned (opV (appT g f m S)) ∧ Below w.heap.size w w' := by
  have hG' := Lib.hid hG
  have hf' := Lib.hid hf
  obtain ⟨A, c, rfl, -, -⟩ := hG.1
  obtain ⟨FA, fc, rfl, ⟨hfn, hfc⟩, -⟩ := hG.2.1
  obtain ⟨MA, mc, rfl, -, -⟩ := hG.2.2
  have hv' := Lib.hid hv
  obtain ⟨U, cu, rfl, hm, hRu, hcu⟩ := hv
  have hcu' := Lib.hid hcu
  have hx := Lib.hid ((Bx.nil w).row #[.slice A g.ns c, .slice FA g.nf fc, .slice MA g.nm mc] 26)
  have hC := Lib.hid (SCheck_any _ _ _ g _ (hG'.out.below hx.out.bel) hf'.out)
  have hR : Hid (appT g f m S = if checkG g = false then (0, 2) else if f < 0 ∨ (g.nf : Int) ≤ f then (0, 2) else if (m : Int) ≠ (g.F f.toNat).len then (0, 2) else if argsB (g.F f.toNat) m S = true then ((g.F f.toNat).res, 0) else (0, 33)) := rfl
  clear hcu hRu hG hf
  go_enter Tryz.func104, Tryz.ntmps104
  cases hk : checkG g with
  | false =>
    have hR2 : Hid (appT g f m S = (0, 2)) := by unfold Hid; rw [hR.out, if_pos hk]
    rw [hk] at hC
    go_wp2_with fail
    refine hC.out.mono ?_
    rintro e w1 ⟨rfl, hb1⟩
    have hx1 := Lib.hid (hx.out.step hb1)
    unfold chV
    go_wp2_with fail
    refine bodyPost_ret (results_tmp2 rfl _ _ _) rfl ⟨by rw [hR2.out]; rfl, hx1.out.bel⟩
  | true =>
    have hlen := Lib.hid fun i (hi : i < g.nf) => check_len hk hi
    rw [hk] at hC hR
    clear hk
    unfold chV at hC
    by_cases hf0 : f < 0
    · have d0 : decide (f < 0) = true := decide_eq_true hf0
      have hR2 : Hid (appT g f m S = (0, 2)) := by unfold Hid; rw [hR.out, if_neg (by simp), if_pos (.inl hf0)]
      clear hf0
      go_wp2_with fail
      refine hC.out.mono ?_
      rintro e w1 ⟨rfl, hb1⟩
      have hx1 := Lib.hid (hx.out.step hb1)
      go_wp2_with fail
      refine bodyPost_ret (results_tmp2 rfl _ _ _) rfl ⟨by rw [hR2.out]; rfl, hx1.out.bel⟩
    · have d0 : decide (f < 0) = false := decide_eq_false hf0
      by_cases hfn2 : (g.nf : Int) ≤ f
      · have d1 : decide ((g.nf : Int) ≤ f) = true := decide_eq_true hfn2
        have hR2 : Hid (appT g f m S = (0, 2)) := by unfold Hid; rw [hR.out, if_neg (by simp), if_pos (.inr hfn2)]
        clear hf0 hfn2
        go_wp2_with fail
        refine hC.out.mono ?_
        rintro e w1 ⟨rfl, hb1⟩
        have hx1 := Lib.hid (hx.out.step hb1)
        obtain ⟨⟨k0, _⟩, ⟨k1, _⟩, ⟨k2, _⟩, _⟩ := hx1.out.cells
        clear k0 k2
        go_wp2_with fail
        refine bodyPost_ret (results_tmp2 rfl _ _ _) rfl ⟨by rw [hR2.out]; rfl, hx1.out.bel⟩
      · have d1 : decide ((g.nf : Int) ≤ f) = false := decide_eq_false hfn2
        obtain ⟨fi, rfl⟩ : ∃ fi : Nat, f = fi := ⟨f.toNat, by omega⟩
        rw [Int.toNat_natCast] at hR
        have hfi : fi < g.nf := by omega
        have hR2 : Hid (appT g fi m S = if (m : Int) ≠ (g.F fi).len then (0, 2) else if argsB (g.F fi) m S = true then ((g.F fi).res, 0) else (0, 33)) := by unfold Hid; rw [hR.out, if_neg (by simp), if_neg (by omega)]
        obtain ⟨hl0, hl3⟩ := hlen.out fi hfi
        clear hf0 hfn2 hR hlen
        go_wp2_with fail
        refine hC.out.mono ?_
        rintro e w1 ⟨rfl, hb1⟩
        have hx1 := Lib.hid (hx.out.step hb1)
        obtain ⟨_, _, e, _, hcs⟩ := hG'.out.2.1.below hx1.out.bel
        injection e with e1 _ e3
        subst e1; subst e3
        obtain ⟨b, o, rfl, hbl, hcs⟩ := hcs (by omega)
        obtain ⟨⟨p0, p1, p2, p3, p4, p5⟩, hpr⟩ := hcs fi hfi
        obtain ⟨⟨k0, _⟩, ⟨k1, _⟩, ⟨k2, _⟩, _⟩ := hx1.out.cells
        clear hcs k0 k2 hb1
        by_cases hml : (m : Int) = (g.F fi).len
        · have d2 : ((m : Int) != (g.F fi).len) = false := by simpa using hml
          have hR3 : Hid (appT g fi m S = if argsB (g.F fi) m S = true then ((g.F fi).res, 0) else (0, 33)) := by unfold Hid; rw [hR2.out, if_neg (fun h => h hml)]
          have hm3 : m ≤ 3 := by omega
          clear hml hR2
          have hpa : Hid (∀ j, j < 3 → w1.cell? ⟨b, o + fi * 6 + 2 + j, none⟩ = some (.int .i64 ((g.F fi).arg j))) := fun j hj => by
            match j, hj with
            | 0, _ => exact p2
            | 1, _ => exact p3
            | 2, _ => exact p4
          have hv1 := Lib.hid (hv'.out.below hx1.out.bel)
          clear p0 p2 p3 p4
          go_wp2_with fail
          go_loopw [8, 9, 37] (fun _ _ i wr => ∃ j : Nat, j ≤ m ∧ i = .int .i64 j ∧ wr = w1 ∧ Hid (∀ k, k < j → S k = (g.F fi).arg k)) (fun _ _ i _ => m - (intOf i).toNat)
          case atStart => exact ⟨0, Nat.zero_le _, rfl, rfl, fun k hk => absurd hk (Nat.not_lt_zero _)⟩
          case round =>
            obtain ⟨j, hj, rfl, rfl, hall⟩ := hrel
            by_cases hlt : j < m
            · have i1 : decide ((j : Int) < (m : Int)) = true := decide_eq_true (by omega)
              obtain ⟨bb, oo, rfl, hbb, hc⟩ := hcu'.out (by omega)
              have rj := (hx1.out.bel.cell (p := ⟨bb, oo + j, none⟩) hbb).trans (hc j hlt)
              have pj := hpa.out j (by omega)
              have hj3 : j < 3 := by omega
              clear hc
              by_cases he : S j = (g.F fi).arg j
              · have e1 : (S j != (g.F fi).arg j) = false := by simpa using he
                have he' := Lib.hid he
                clear he
                go_wp2_with fail
                go_roundw
                case rel => exact ⟨j + 1, by omega, by go_num, trivial, fun k hk => by
                  by_cases e : k = j
                  · subst e; exact he'.out
                  · exact hall.out k (by omega)⟩
                case measure => simp [intOf]; omega
              · have e1 : (S j != (g.F fi).arg j) = true := by simpa using he
                have hno : Hid (appT g fi m S = (0, 33)) := by unfold Hid; rw [hR3.out, args_no hlt he]; rfl
                clear he
                go_wp2_with fail
                refine bodyPost_ret (results_tmp2 rfl _ _ _) rfl ⟨by rw [hno.out]; rfl, hx1.out.bel⟩
            · have i1 : decide ((j : Int) < (m : Int)) = false := decide_eq_false (by omega)
              have hyes : Hid (appT g fi m S = ((g.F fi).res, 0)) := by unfold Hid; rw [hR3.out, args_yes (m := m) fun i hi => hall.out i (by omega)]; rfl
              go_wp2_with fail
              refine bodyPost_ret (results_tmp2 rfl _ _ _) rfl ⟨by rw [hyes.out]; rfl, hx1.out.bel⟩
        · have d2 : ((m : Int) != (g.F fi).len) = true := by simpa using hml
          have hR3 : Hid (appT g fi m S = (0, 2)) := by unfold Hid; rw [hR2.out, if_pos hml]
          clear hml hR2
          go_wp2_with fail
          refine bodyPost_ret (results_tmp2 rfl _ _ _) rfl ⟨by rw [hR3.out]; rfl, hx1.out.bel⟩
end Go.Proofs.YtlhnffmbjejphaaGreat

namespace Go.Proofs.YtlhnffmbjejphaaGreat
open Go.RowKit
set_option maxRecDepth 100000

set_option maxHeartbeats 4000000 in
theorem TSort_any (sv fv mv tv : Value) (g : Sg) (n : Nat) (N : Nat → Nd) (e : Nd) (w : World) (hG : SgAt w sv fv mv g) (hf : FewG g) (hv : NdsAt w tv n N) (he : InT n e) :
    Calls Tryz.prog 50 #[.agg #[sv, fv, mv], .agg #[tv], ndV e] w fun z w' => z = .returned (sortV (nodeT g N e)) ∧ Below w.heap.size w w' := by
  have hG' := Lib.hid hG
  have hf' := Lib.hid hf
  obtain ⟨A, c, rfl, -, -⟩ := hG.1
  obtain ⟨FA, fc, rfl, -, -⟩ := hG.2.1
  obtain ⟨MA, mc, rfl, -, -⟩ := hG.2.2
  have hv' := Lib.hid hv
  obtain ⟨TA, tc, rfl, hcap, hRn, hcs⟩ := hv
  have hcs' := Lib.hid hcs
  have hRn' := Lib.hid hRn
  have he' := Lib.hid he
  have hx := soK_bx w (.slice A g.ns c) (.slice FA g.nf fc) (.slice MA g.nm mc) (.slice TA n tc) e
  have hmk : ∀ W : World, (Instr.makeSlice 27 (.int .i64 0) (.int .i64 3)).run Tryz.prog W = .ok (.slice (some ⟨W.heap.size, 0, none⟩) 0 3) (W.alloc (.cells #[.int .i64 0, .int .i64 0, .int .i64 0] 3)) := fun _ => by kernel_rfl
  have hown := Lib.hid (own3 (((w.alloc (.cells #[.slice A g.ns c, .slice FA g.nf fc, .slice MA g.nm mc] 26)).alloc (.cells #[.slice TA n tc] 33)).alloc (.cells (ndC e).toArray 53)) (w.heap.size + 3) (by simp))
  have hl0 := he.len0
  have hl3 := he.len3
  obtain ⟨m, hm⟩ : ∃ m : Nat, e.len = m := ⟨e.len.toNat, by omega⟩
  have hT : Hid (nodeT g N e = if e.op = 13 then appT g e.fn m (sortsN N e) else opT e.op m (sortsN N e)) := by unfold Hid nodeT; rw [hm]; rfl
  have hwl : IntKind.i64.wrap e.len = e.len := by rw [IntKind.wrap_i64]; omega
  clear hG hf hcs hRn
  unfold ndV
  go_enter Tryz.func50, Tryz.ntmps50
  have hx' := Lib.hid hx
  have hal : Tryz.prog.arrayLen 51 = 3 := by kernel_rfl
  have hm0 : (0 : Int) ≤ (m : Int) := by omega
  have hm3 : (m : Int) ≤ 3 := by omega
  clear hx he
  have hm1 : e.len.toNat = m := by omega
  have hm' := Lib.hid hm
  clear hm
  have hS := Lib.hid fun j => range_snoc (f := sortsN N e) (j := j)
  have hSR : Hid (∀ j, j < m → 0 ≤ e.arg j ∧ (e.arg j).toNat < n ∧ R64 (sortsN N e j)) := fun j hj => by
    have := he'.out.arg j (by rw [hm'.out]; omega)
    refine ⟨this.1, by omega, (hRn'.out _ (by omega)).sort⟩
  go_wp2_with fail
  go_loopw [8, 10, 19] (fun z _ i wr => ∃ j : Nat, j ≤ m ∧ i = .int .i64 j ∧ Hid (OwnL wr (w.heap.size + 3) z ((List.range j).map (sortsN N e))) ∧ Hid (Bx w (soK w (.slice A g.ns c) (.slice FA g.nf fc) (.slice MA g.nm mc) (.slice TA n tc) e) wr)) (fun _ _ i _ => m - (intOf i).toNat)
  case atStart =>
    have h1 := hown.out
    simp only [World.size_alloc] at h1
    have h2 := hx'.out.skip (.cells #[.int .i64 0, .int .i64 0, .int .i64 0] 3)
    exact ⟨0, Nat.zero_le _, rfl, h1, h2⟩
  case round =>
    clear hown hx'
    obtain ⟨j, hj, rfl, hown, hx⟩ := hrel
    obtain ⟨_, _, _, _, _, _, ⟨k7, kz7⟩, _⟩ := hx.out.cells
    by_cases hlt : j < m
    · have i1 : decide ((j : Int) < (m : Int)) = true := decide_eq_true (by omega)
      have pj := arg_cell hx.out (j := j) (by omega)
      obtain ⟨ha0, han, hR⟩ := hSR.out j hlt
      obtain ⟨aj, haj⟩ : ∃ aj : Nat, e.arg j = aj := ⟨(e.arg j).toNat, by omega⟩
      obtain ⟨b, o, rfl, hbl, hcs⟩ := hcs'.out (by omega)
      obtain ⟨_, _, _, _, _, q5, _, _⟩ := hcs aj (by rw [haj] at han; omega)
      have q := (hx.out.bel.cell (p := ⟨b, o + aj * 8 + 5, none⟩) hbl).trans q5
      have hsj : Hid (sortsN N e j = (N aj).sort) := by unfold Hid sortsN; rw [haj]; rfl
      have han' : aj < n := by rw [haj] at han; omega
      have hz := hx.out.bel.size
      clear hcs q5 ha0 han
      rw [haj] at pj
      have hSj : Hid ((List.range (j + 1)).map (sortsN N e) = (List.range j).map (sortsN N e) ++ [(N aj).sort]) := by unfold Hid; rw [hS.out, hsj.out]
      have hRs : R64 (N aj).sort := by rw [← hsj.out]; exact hR
      have haj' := Lib.hid haj
      clear haj hR
      have hlen : ((List.range j).map (sortsN N e)).length = j := by simp
      go_wp2_with (at_builtin; refine wpList_app1 rfl rfl _ _ rfl (w.heap.size + 3) _ _ (N aj).sort rfl (hown.out.alloc _) wr.heap.size 1 rfl ?c1 ?c2 ?c3 ?_)
      case c1 => simp
      case c2 => omega
      case c3 => simp; omega
      intro v' w4 hown4 hb4 _
      go_wp2_with fail
      go_roundw
      case rel => exact ⟨j + 1, by omega, by go_num, by rw [hSj.out]; exact hown4, (hx.out.skip _).under hb4 soK_lt (by omega)⟩
      case measure => simp [intOf]; omega
    · have i1 : decide ((j : Int) < (m : Int)) = false := decide_eq_false (by omega)
      obtain rfl : j = m := by omega
      have hli := hown.out.intsF (by omega) (fun i hi => (hSR.out i hi).2.2)
      have hli' := Lib.hid hli
      have hcap := Lib.hid hown.out.capOk
      obtain ⟨⟨k0, _⟩, _, _, _, _, ⟨k6, _⟩, _, ⟨k8, _⟩, ⟨k9, _⟩, ⟨k10, _⟩, _⟩ := hx.out.cells
      clear hli hown
      by_cases h13 : e.op = 13
      · have d13 : (e.op == 13) = true := by simpa using h13
        have hT2 : Hid (nodeT g N e = appT g e.fn j (sortsN N e)) := by unfold Hid; rw [hT.out, if_pos h13]
        clear h13
        go_wp2_with fail
        refine (TApp_any _ _ _ g e.fn _ j (sortsN N e) wr (hG'.out.below hx.out.bel) hf'.out hli'.out).mono ?_
        rintro z w5 ⟨rfl, hb5⟩
        have hx5 := Lib.hid (hx.out.step hb5)
        rw [← hT2.out]
        unfold opV
        go_wp2_with fail
        refine bodyPost_ret (results_tmp2 rfl _ _ _) rfl ⟨rfl, hx5.out.bel⟩
      · have d13 : (e.op == 13) = false := by simpa using h13
        have hT2 : Hid (nodeT g N e = opT e.op j (sortsN N e)) := by unfold Hid; rw [hT.out, if_neg h13]
        clear h13
        go_wp2_with fail
        refine (TOp_any e.op _ j (sortsN N e) wr he'.out.R.op hli'.out hcap.out).mono ?_
        rintro z w5 ⟨rfl, hb5⟩
        have hx5 := Lib.hid (hx.out.step hb5)
        rw [← hT2.out]
        unfold opV
        go_wp2_with fail
        refine bodyPost_ret (results_tmp2 rfl _ _ _) rfl ⟨rfl, hx5.out.bel⟩
end Go.Proofs.YtlhnffmbjejphaaGreat
