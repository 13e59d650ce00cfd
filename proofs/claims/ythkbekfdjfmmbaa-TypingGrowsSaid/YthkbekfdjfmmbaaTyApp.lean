/- typing.App. -/
import Derived.Test.YthkbekfdjfmmbaaSigD
import Derived.Test.YthkbekfdjfmmbaaTyOpB
namespace Go.Proofs.Ythkbekfdjfmmbaa
open Go.RowKit
set_option maxRecDepth 100000

/-- The sorts are the function's arguments. -/
def argsB (f : Fn) (m : Nat) (S : Nat → Int) : Bool := (List.range m).all fun i => S i == f.arg i
theorem args_yes {f : Fn} {m : Nat} {S : Nat → Int} (h : ∀ i, i < m → S i = f.arg i) : argsB f m S = true := by unfold argsB; rw [List.all_eq_true]; intro i hi; simp [h i (List.mem_range.1 hi)]
theorem args_no {f : Fn} {m i : Nat} {S : Nat → Int} (hi : i < m) (h : S i ≠ f.arg i) : argsB f m S = false := by
  unfold argsB
  rw [List.all_eq_false]
  exact ⟨i, List.mem_range.2 hi, by simpa using h⟩
def appT (g : Sg) (f : Int) (m : Nat) (S : Nat → Int) : Int × Int :=
  if checkG g = false then (0, 2)
  else if f < 0 ∨ (g.nf : Int) ≤ f then (0, 2)
  else if (m : Int) ≠ (g.F f.toNat).len then (0, 2)
  else if argsB (g.F f.toNat) m S = true then ((g.F f.toNat).res, 0) else (0, 33)
theorem check_fun {g : Sg} (h : checkG g = true) {i : Nat} (hi : i < g.nf) : funB g.ns (g.F i) = true := by
  unfold checkG at h
  simp only [Bool.and_eq_true] at h
  have := (upTo_iff _ _).1 h.1.2 i hi
  unfold okFn at this
  simp only [Bool.and_eq_true] at this
  exact this.2
theorem check_len {g : Sg} (h : checkG g = true) {i : Nat} (hi : i < g.nf) : 0 ≤ (g.F i).len ∧ (g.F i).len ≤ 3 := by
  have := check_fun h hi
  unfold funB at this
  simp only [Bool.and_eq_true, decide_eq_true_eq] at this
  exact this.1.1
set_option maxHeartbeats 4000000 in
theorem TApp_any (sv fv mv : Value) (g : Sg) (f : Int) (v : Value) (m : Nat) (S : Nat → Int) (w : World) (hG : SgAt w sv fv mv g) (hf : FewG g) (hv : IntsAt w v m S) :
    Calls Try.prog 24 #[.agg #[sv, fv, mv], .int .i64 f, v] w fun e w' => e = .returned (opV (appT g f m S)) ∧ Below w.heap.size w w' := by
  have hG' := Lib.hid hG
  have hf' := Lib.hid hf
  obtain ⟨A, c, rfl, -, -⟩ := hG.1
  obtain ⟨FA, fc, rfl, ⟨hfn, hfc⟩, -⟩ := hG.2.1
  obtain ⟨MA, mc, rfl, -, -⟩ := hG.2.2
  have hv' := Lib.hid hv
  obtain ⟨U, cu, rfl, hm, hRu, hcu⟩ := hv
  have hcu' := Lib.hid hcu
  have hx := Lib.hid ((Bx.nil w).row #[.slice A g.ns c, .slice FA g.nf fc, .slice MA g.nm mc] 26)
  have hC := Lib.hid (SCheck_any _ _ _ g _ (hG'.out.below hx.out.bel) hf'.out)
  have hR : Hid (appT g f m S = if checkG g = false then (0, 2) else if f < 0 ∨ (g.nf : Int) ≤ f then (0, 2) else if (m : Int) ≠ (g.F f.toNat).len then (0, 2) else if argsB (g.F f.toNat) m S = true then ((g.F f.toNat).res, 0) else (0, 33)) := rfl
  clear hcu hRu hG hf
  go_enter Try.func24, Try.ntmps24
  cases hk : checkG g with
  | false =>
    have hR2 : Hid (appT g f m S = (0, 2)) := by unfold Hid; rw [hR.out, if_pos hk]
    rw [hk] at hC
    go_wp2_with fail
    refine hC.out.mono ?_
    rintro e w1 ⟨rfl, hb1⟩
    have hx1 := Lib.hid (hx.out.step hb1)
    unfold chV
    go_wp2_with fail
    refine bodyPost_ret (results_tmp2 rfl _ _ _) rfl ⟨by rw [hR2.out]; rfl, hx1.out.bel⟩
  | true =>
    have hlen := Lib.hid fun i (hi : i < g.nf) => check_len hk hi
    rw [hk] at hC hR
    clear hk
    unfold chV at hC
    by_cases hf0 : f < 0
    · have d0 : decide (f < 0) = true := decide_eq_true hf0
      have hR2 : Hid (appT g f m S = (0, 2)) := by unfold Hid; rw [hR.out, if_neg (by simp), if_pos (.inl hf0)]
      clear hf0
      go_wp2_with fail
      refine hC.out.mono ?_
      rintro e w1 ⟨rfl, hb1⟩
      have hx1 := Lib.hid (hx.out.step hb1)
      go_wp2_with fail
      refine bodyPost_ret (results_tmp2 rfl _ _ _) rfl ⟨by rw [hR2.out]; rfl, hx1.out.bel⟩
    · have d0 : decide (f < 0) = false := decide_eq_false hf0
      by_cases hfn2 : (g.nf : Int) ≤ f
      · have d1 : decide ((g.nf : Int) ≤ f) = true := decide_eq_true hfn2
        have hR2 : Hid (appT g f m S = (0, 2)) := by unfold Hid; rw [hR.out, if_neg (by simp), if_pos (.inr hfn2)]
        clear hf0 hfn2
        go_wp2_with fail
        refine hC.out.mono ?_
        rintro e w1 ⟨rfl, hb1⟩
        have hx1 := Lib.hid (hx.out.step hb1)
        obtain ⟨⟨k0, _⟩, ⟨k1, _⟩, ⟨k2, _⟩, _⟩ := hx1.out.cells
        clear k0 k2
        go_wp2_with fail
        refine bodyPost_ret (results_tmp2 rfl _ _ _) rfl ⟨by rw [hR2.out]; rfl, hx1.out.bel⟩
      · have d1 : decide ((g.nf : Int) ≤ f) = false := decide_eq_false hfn2
        obtain ⟨fi, rfl⟩ : ∃ fi : Nat, f = fi := ⟨f.toNat, by omega⟩
        rw [Int.toNat_natCast] at hR
        have hfi : fi < g.nf := by omega
        have hR2 : Hid (appT g fi m S = if (m : Int) ≠ (g.F fi).len then (0, 2) else if argsB (g.F fi) m S = true then ((g.F fi).res, 0) else (0, 33)) := by unfold Hid; rw [hR.out, if_neg (by simp), if_neg (by omega)]
        obtain ⟨hl0, hl3⟩ := hlen.out fi hfi
        clear hf0 hfn2 hR hlen
        go_wp2_with fail
        refine hC.out.mono ?_
        rintro e w1 ⟨rfl, hb1⟩
        have hx1 := Lib.hid (hx.out.step hb1)
        obtain ⟨_, _, e, _, hcs⟩ := hG'.out.2.1.below hx1.out.bel
        injection e with e1 _ e3
        subst e1; subst e3
        obtain ⟨b, o, rfl, hbl, hcs⟩ := hcs (by omega)
        obtain ⟨⟨p0, p1, p2, p3, p4, p5⟩, hpr⟩ := hcs fi hfi
        obtain ⟨⟨k0, _⟩, ⟨k1, _⟩, ⟨k2, _⟩, _⟩ := hx1.out.cells
        clear hcs k0 k2 hb1
        by_cases hml : (m : Int) = (g.F fi).len
        · have d2 : ((m : Int) != (g.F fi).len) = false := by simpa using hml
          have hR3 : Hid (appT g fi m S = if argsB (g.F fi) m S = true then ((g.F fi).res, 0) else (0, 33)) := by unfold Hid; rw [hR2.out, if_neg (fun h => h hml)]
          have hm3 : m ≤ 3 := by omega
          clear hml hR2
          have hpa : Hid (∀ j, j < 3 → w1.cell? ⟨b, o + fi * 6 + 2 + j, none⟩ = some (.int .i64 ((g.F fi).arg j))) := fun j hj => by
            match j, hj with
            | 0, _ => exact p2
            | 1, _ => exact p3
            | 2, _ => exact p4
          have hv1 := Lib.hid (hv'.out.below hx1.out.bel)
          clear p0 p2 p3 p4
          go_wp2_with fail
          go_loopw [8, 9, 37] (fun _ _ i wr => ∃ j : Nat, j ≤ m ∧ i = .int .i64 j ∧ wr = w1 ∧ Hid (∀ k, k < j → S k = (g.F fi).arg k)) (fun _ _ i _ => m - (intOf i).toNat)
          case atStart => exact ⟨0, Nat.zero_le _, rfl, rfl, fun k hk => absurd hk (Nat.not_lt_zero _)⟩
          case round =>
            obtain ⟨j, hj, rfl, rfl, hall⟩ := hrel
            by_cases hlt : j < m
            · have i1 : decide ((j : Int) < (m : Int)) = true := decide_eq_true (by omega)
              obtain ⟨bb, oo, rfl, hbb, hc⟩ := hcu'.out (by omega)
              have rj := (hx1.out.bel.cell (p := ⟨bb, oo + j, none⟩) hbb).trans (hc j hlt)
              have pj := hpa.out j (by omega)
              have hj3 : j < 3 := by omega
              clear hc
              by_cases he : S j = (g.F fi).arg j
              · have e1 : (S j != (g.F fi).arg j) = false := by simpa using he
                have he' := Lib.hid he
                clear he
                go_wp2_with fail
                go_roundw
                case rel => exact ⟨j + 1, by omega, by go_num, trivial, fun k hk => by
                  by_cases e : k = j
                  · subst e; exact he'.out
                  · exact hall.out k (by omega)⟩
                case measure => simp [intOf]; omega
              · have e1 : (S j != (g.F fi).arg j) = true := by simpa using he
                have hno : Hid (appT g fi m S = (0, 33)) := by unfold Hid; rw [hR3.out, args_no hlt he]; rfl
                clear he
                go_wp2_with fail
                refine bodyPost_ret (results_tmp2 rfl _ _ _) rfl ⟨by rw [hno.out]; rfl, hx1.out.bel⟩
            · have i1 : decide ((j : Int) < (m : Int)) = false := decide_eq_false (by omega)
              have hyes : Hid (appT g fi m S = ((g.F fi).res, 0)) := by unfold Hid; rw [hR3.out, args_yes (m := m) fun i hi => hall.out i (by omega)]; rfl
              go_wp2_with fail
              refine bodyPost_ret (results_tmp2 rfl _ _ _) rfl ⟨by rw [hyes.out]; rfl, hx1.out.bel⟩
        · have d2 : ((m : Int) != (g.F fi).len) = true := by simpa using hml
          have hR3 : Hid (appT g fi m S = (0, 2)) := by unfold Hid; rw [hR2.out, if_pos hml]
          clear hml hR2
          go_wp2_with fail
          refine bodyPost_ret (results_tmp2 rfl _ _ _) rfl ⟨by rw [hR3.out]; rfl, hx1.out.bel⟩
end Go.Proofs.Ythkbekfdjfmmbaa
