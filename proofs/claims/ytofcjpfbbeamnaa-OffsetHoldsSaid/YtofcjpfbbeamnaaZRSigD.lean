/- gantryref04.macro. -/
import Derived.Test.YtofcjpfbbeamnaaZRSigBRSigC
namespace Go.Proofs.Ytofcjpfbbeamnaa
open Go.RowKit
set_option maxRecDepth 100000

theorem mac_no {ns : Nat} {m : Mc} (h : ¬ m.np ≤ 3 ∨ thereB ns m.res = false ∨ mayX m.body = false) : macB ns m = false := by
  unfold macB
  rcases h with h | h | h
  · rw [decide_eq_false h]; simp
  · rw [h]; simp
  · rw [h]; simp
theorem mac_yes {ns : Nat} {m : Mc} (h0 : m.np ≤ 3) (h1 : thereB ns m.res = true) (h2 : mayX m.body = true) (h3 : ∀ i, i < m.np → pmB ns m.ps i = true) : macB ns m = true := by
  unfold macB; rw [upTo_yes h3, decide_eq_true h0, h1, h2]; rfl
theorem pm_no {ns : Nat} {ps : Nat → Pm} {i : Nat} (h : useS (ps i).name = false ∨ thereB ns (ps i).sort = false ∨ ∃ k, k < i ∧ (ps k).name = (ps i).name) : pmB ns ps i = false := by
  unfold pmB
  rcases h with h | h | h
  · rw [h]; simp
  · rw [h]; simp
  · rw [among_iff.2 h]; rfl
theorem pm_yes {ns : Nat} {ps : Nat → Pm} {i : Nat} (h0 : useS (ps i).name = true) (h1 : thereB ns (ps i).sort = true) (h2 : ∀ k, k < i → (ps k).name ≠ (ps i).name) : pmB ns ps i = true := by
  unfold pmB; rw [h0, h1, among_no h2]; rfl
set_option maxHeartbeats 4000000 in
theorem RMac_any (A FA MA : Option Addr) (ns c fn fc mn mc : Nat) (S : Nat → ByteArray) (m : Mc) (v0 v1 v2 v3 v4 v5 : Value) (w : World) (hS : StrsAt w (.slice A ns c) ns S) (hM : McIs w m v0 v1 v2 v3 v4 v5) :
    Calls Try.prog 94 #[.agg #[.slice A ns c, .slice FA fn fc, .slice MA mn mc], .agg #[v0, v1, v2, v3, v4, v5]] w fun e w' => e = .returned (.bool (macB ns m)) ∧ Below w.heap.size w w' := by
  have hTh := Lib.hid fun (y : Int) (hy : R64 y) (X : World) (hb : Below w.heap.size w X) => RThere_any (.slice A ns c) (.slice FA fn fc) (.slice MA mn mc) ns S y X (hS.below hb) ⟨FA, fn, fc, rfl⟩ ⟨MA, mn, mc, rfl⟩ hy
  obtain ⟨rfl, _, hP, rfl, hres, hB⟩ := hM
  obtain ⟨kk, tt, AA, nn, cc, rfl, rfl, rfl⟩ := hB.forms
  have hBd := Lib.hid fun (X : World) (hb : Below w.heap.size w X) => RXMay_any m.body _ _ _ X (SxIs.below hb _ _ _ _ hB)
  have hP' := Lib.hid hP
  have hres' := Lib.hid hres
  obtain ⟨PA, pc, rfl, ⟨hpn, hpc⟩, _⟩ := hP
  have hx0 : Hid (Bx w (mbox w A ns c (.slice FA fn fc) (.slice MA mn mc) (.string m.name) (.slice PA m.np pc) (.int .i64 m.res) (.int .i8 kk) (.string tt) (.slice AA nn cc)) ((w.alloc (.cells #[.slice A ns c, .slice FA fn fc, .slice MA mn mc] 49)).alloc (.cells #[.string m.name, .slice PA m.np pc, .int .i64 m.res, .int .i8 kk, .string tt, .slice AA nn cc] 98))) :=
    (((Bx.nil w).row #[.slice A ns c, .slice FA fn fc, .slice MA mn mc] 49).row #[.string m.name, .slice PA m.np pc, .int .i64 m.res, .int .i8 kk, .string tt, .slice AA nn cc] 98).cast (by simp [rowK, mbox])
  have hno := Lib.hid fun h => mac_no (ns := ns) (m := m) h
  have hyes := Lib.hid fun h0 h1 h2 h3 => mac_yes (ns := ns) (m := m) h0 h1 h2 h3
  have hpm := Lib.hid fun i (hi : i < m.np) h => macB_pm (ns := ns) (m := m) hi h
  clear hS hB hres
  obtain ⟨⟨k0, -⟩, ⟨k1, -⟩, ⟨k2, -⟩, ⟨k3, -⟩, ⟨k4, -⟩, ⟨k5, -⟩, ⟨k6, -⟩, ⟨k7, -⟩, ⟨k8, -⟩, -⟩ := hx0.out.cells
  go_enter Try.func94, Try.ntmps94
  by_cases h1 : m.np ≤ 3
  case neg =>
    have d1 : decide ((3 : Int) < (m.np : Int)) = true := decide_eq_true (by omega)
    have hF : Hid (macB ns m = false) := hno.out (.inl h1)
    clear h1
    go_wp2_with fail
    go_ret
    exact ⟨by rw [hF.out]; rfl, hx0.out.bel⟩
  have d1 : decide ((3 : Int) < (m.np : Int)) = false := decide_eq_false (by omega)
  have h1' := Lib.hid h1
  clear h1
  have hTr := Lib.hid (hTh.out m.res hres'.out _ hx0.out.bel)
  cases hr : thereB ns m.res with
  | false =>
    have hF : Hid (macB ns m = false) := hno.out (.inr (.inl hr))
    rw [hr] at hTr
    clear hr
    go_wp2_with fail
    refine hTr.out.mono ?_
    rintro e w1 ⟨rfl, hb1⟩
    have hx1 := Lib.hid (hx0.out.step hb1)
    go_wp2_with fail
    go_ret
    exact ⟨by rw [hF.out]; rfl, hx1.out.bel⟩
  | true =>
  have hr' := Lib.hid hr
  rw [hr] at hTr
  clear hr
  go_wp2_with fail
  refine hTr.out.mono ?_
  rintro e w1 ⟨rfl, hb1⟩
  have hx1 := Lib.hid (hx0.out.step hb1)
  clear hb1 hTr hx0 k0 k1 k2 k3 k4 k5 k6 k7 k8
  obtain ⟨⟨k0, -⟩, ⟨k1, -⟩, ⟨k2, -⟩, ⟨k3, -⟩, ⟨k4, -⟩, ⟨k5, -⟩, ⟨k6, -⟩, ⟨k7, -⟩, ⟨k8, -⟩, -⟩ := hx1.out.cells
  have hBb := Lib.hid (hBd.out _ hx1.out.bel)
  cases hq : mayX m.body with
  | false =>
    have hF : Hid (macB ns m = false) := hno.out (.inr (.inr hq))
    rw [hq] at hBb
    clear hq
    go_wp2_with fail
    refine hBb.out.mono ?_
    rintro e w2 ⟨rfl, hb2⟩
    have hx2 := Lib.hid (hx1.out.step hb2)
    go_wp2_with fail
    go_ret
    exact ⟨by rw [hF.out]; rfl, hx2.out.bel⟩
  | true =>
  have hq' := Lib.hid hq
  rw [hq] at hBb
  clear hq
  go_wp2_with fail
  refine hBb.out.mono ?_
  rintro e w2 ⟨rfl, hb2⟩
  have hx2 := Lib.hid (hx1.out.step hb2)
  clear hb2 hBb hBd hx1 k0 k1 k2 k3 k4 k5 k6 k7 k8 hno
  go_wp2_with fail
  go_loopw [5, 6, 7] (fun i _ _ wr => ∃ j : Nat, j ≤ m.np ∧ i = .int .i64 j ∧ Hid (∀ k, k < j → pmB ns m.ps k = true) ∧ Hid (Bx w (mbox w A ns c (.slice FA fn fc) (.slice MA mn mc) (.string m.name) (.slice PA m.np pc) (.int .i64 m.res) (.int .i8 kk) (.string tt) (.slice AA nn cc)) wr)) (fun i _ _ _ => m.np - (intOf i).toNat)
  case atStart => exact ⟨0, Nat.zero_le _, rfl, fun k hk => absurd hk (Nat.not_lt_zero _), hx2.out⟩
  case round =>
    clear hx2
    obtain ⟨j, hj, rfl, hall, hx⟩ := hrel
    obtain ⟨⟨k0, -⟩, ⟨k1, -⟩, ⟨k2, -⟩, ⟨k3, -⟩, ⟨k4, -⟩, ⟨k5, -⟩, ⟨k6, -⟩, ⟨k7, -⟩, ⟨k8, -⟩, -⟩ := hx.out.cells
    by_cases hlt : j < m.np
    case neg =>
      have i1 : decide ((j : Int) < (m.np : Int)) = false := decide_eq_false (by omega)
      have hF : Hid (macB ns m = true) := hyes.out h1'.out hr'.out hq'.out fun i hi => hall.out i (by omega)
      go_wp2_with fail
      go_ret
      exact ⟨by rw [hF.out]; rfl, hx.out.bel⟩
    have i1 : decide ((j : Int) < (m.np : Int)) = true := decide_eq_true (by omega)
    have hj0 : (0 : Int) ≤ (j : Int) := by omega
    have hjn : (j : Int) < (m.np : Int) := by omega
    obtain ⟨pb, po, pcc, e, hpb, ⟨p0, p1⟩, hpN, hpS⟩ := RowAt.at_ hP'.out hlt
    injection e with e _ ec
    subst e; subst ec
    have r0 := (hx.out.bel.cell (p := ⟨pb, po + j * 2, none⟩) hpb).trans p0
    have r1 := (hx.out.bel.cell (p := ⟨pb, po + j * 2 + 1, none⟩) hpb).trans p1
    have hxA := Lib.hid (hx.out.row #[.string (m.ps j).name, .int .i64 (m.ps j).sort] 151)
    have hM1 := Lib.hid fun (X : World) => RNMay_any (m.ps j).name X hpN
    have hM2 := Lib.hid fun (X : World) => RReserved_any (m.ps j).name X
    have hT := Lib.hid fun (X : World) (hb : Below w.heap.size w X) => hTh.out (m.ps j).sort hpS X hb
    have hpmj := Lib.hid (hpm.out j hlt)
    have hpno := Lib.hid fun h => pm_no (ns := ns) (ps := m.ps) (i := j) h
    have hpyes := Lib.hid fun h0 h1 h2 => pm_yes (ns := ns) (ps := m.ps) (i := j) h0 h1 h2
    have hU : Hid (useS (m.ps j).name = (mayS (m.ps j).name && !resS (m.ps j).name)) := rfl
    have hstepj := Lib.hid fun (h : pmB ns m.ps j = true) => show ∀ k, k < j + 1 → pmB ns m.ps k = true from fun k hk => by
      by_cases e : k = j
      · subst e; exact h
      · exact hall.out k (by omega)
    clear p0 p1 hpS hpN hpm hTh
    generalize mayS (m.ps j).name = q1 at *
    generalize resS (m.ps j).name = q2 at *
    clear k0 k1 k2 k3 k4 k5 k6 k7 k8
    obtain ⟨⟨k0, -⟩, ⟨k1, -⟩, ⟨k2, -⟩, ⟨k3, -⟩, ⟨k4, -⟩, ⟨k5, -⟩, ⟨k6, -⟩, ⟨k7, -⟩, ⟨k8, -⟩, -⟩ := hx.out.cells
    go_wp2_with fail
    refine (hM1.out _).mono ?_
    rintro e w3 ⟨rfl, rfl⟩
    clear k0 k1 k2 k3 k4 k5 k6 k7 k8 r0 r1
    obtain ⟨⟨k0, -⟩, ⟨k1, -⟩, ⟨k2, -⟩, ⟨k3, -⟩, ⟨k4, -⟩, ⟨k5, -⟩, ⟨k6, -⟩, ⟨k7, -⟩, ⟨k8, -⟩, -⟩ := hxA.out.right.cells
    obtain ⟨⟨r0, -⟩, ⟨r1, -⟩, -⟩ := hxA.out.left.cells
    cases q1 with
    | false =>
      have hF : Hid (macB ns m = false) := hpmj.out (hpno.out (.inl (by rw [hU.out]; rfl)))
      go_wp2_with fail
      go_ret
      exact ⟨by rw [hF.out]; rfl, hxA.out.bel⟩
    | true =>
    go_wp2_with fail
    refine (hM2.out _).mono ?_
    rintro e w3 ⟨rfl, rfl⟩
    cases q2 with
    | true =>
      have hF : Hid (macB ns m = false) := hpmj.out (hpno.out (.inl (by rw [hU.out]; rfl)))
      go_wp2_with fail
      go_ret
      exact ⟨by rw [hF.out]; rfl, hxA.out.bel⟩
    | false =>
    have hUt : Hid (useS (m.ps j).name = true) := hU.out
    have hTj := Lib.hid (hT.out _ hxA.out.bel)
    cases hq3 : thereB ns (m.ps j).sort with
    | false =>
      have hF : Hid (macB ns m = false) := hpmj.out (hpno.out (.inr (.inl hq3)))
      rw [hq3] at hTj
      clear hq3
      go_wp2_with fail
      refine hTj.out.mono ?_
      rintro e w4 ⟨rfl, hb4⟩
      have hx4 := Lib.hid (hxA.out.step hb4)
      go_wp2_with fail
      go_ret
      exact ⟨by rw [hF.out]; rfl, hx4.out.bel⟩
    | true =>
    have hq3' := Lib.hid hq3
    rw [hq3] at hTj
    clear hq3
    go_wp2_with fail
    refine hTj.out.mono ?_
    rintro e w4 ⟨rfl, hb4⟩
    have hx4 := Lib.hid (hxA.out.step hb4)
    have hz := hx.out.bel.size
    clear hb4 hTj hT hxA k0 k1 k2 k3 k4 k5 k6 k7 k8 r0 r1 hM1 hM2
    go_wp2_with fail
    go_loopw [7] (fun i w9 => ∃ k : Nat, k ≤ j ∧ i = .int .i64 k ∧ Hid (∀ r, r < k → (m.ps r).name ≠ (m.ps j).name) ∧ Hid (Bx w (rowK wr.heap.size [.string (m.ps j).name, .int .i64 (m.ps j).sort] 0 ++ mbox w A ns c (.slice FA fn fc) (.slice MA mn mc) (.string m.name) (.slice (some ⟨pb, po, none⟩) m.np pc) (.int .i64 m.res) (.int .i8 kk) (.string tt) (.slice AA nn cc)) w9)) (fun i _ => j - (intOf i).toNat)
    case atStart => exact ⟨0, Nat.zero_le _, rfl, fun k hk => absurd hk (Nat.not_lt_zero _), hx4.out⟩
    case round =>
      clear hx4
      obtain ⟨k, hk, rfl, hne, hx5⟩ := hrel
      obtain ⟨⟨k0, -⟩, ⟨k1, -⟩, ⟨k2, -⟩, ⟨k3, -⟩, ⟨k4, -⟩, ⟨k5, -⟩, ⟨k6, -⟩, ⟨k7, -⟩, ⟨k8, -⟩, -⟩ := hx5.out.right.cells
      obtain ⟨⟨r0, -⟩, ⟨r1, -⟩, -⟩ := hx5.out.left.cells
      by_cases hkj : k < j
      · have i2 : decide ((k : Int) < (j : Int)) = true := decide_eq_true (by omega)
        have i2n : decide (k < j) = true := decide_eq_true hkj
        have hk0 : (0 : Int) ≤ (k : Int) := by omega
        have hkn : (k : Int) < (m.np : Int) := by omega
        have hkn' : k < m.np := by omega
        obtain ⟨pb', po', pcc, e, hpb', ⟨p0, p1⟩, hpN, hpS⟩ := RowAt.at_ hP'.out hkn'
        injection e with e _ ec
        injection e with e
        injection e with ea eb
        subst ea; subst eb; subst ec
        have s0 := (hx5.out.bel.cell (p := ⟨pb, po + k * 2, none⟩) hpb').trans p0
        clear p0 p1 hpN hpS
        by_cases he : (m.ps k).name = (m.ps j).name
        · have e1 := same_yes' he
          have hF : Hid (macB ns m = false) := hpmj.out (hpno.out (.inr (.inr ⟨k, hkj, he⟩)))
          clear he
          go_wp2_with fail
          go_quiet (fail)
          go_wp2_with fail
          go_ret
          exact ⟨by rw [hF.out]; rfl, (hx5.out.drewN _).bel⟩
        · have e1 := same_no' he
          have he' := Lib.hid he
          clear he
          go_wp2_with fail
          go_quiet (fail)
          go_wp2_with fail
          go_roundw
          case rel => exact ⟨k + 1, by omega, by go_num, fun r hr => by
            by_cases e : r = k
            · subst e; exact he'.out
            · exact hne.out r (by omega), hx5.out.drewN _⟩
          case measure => simp [intOf]; omega
      · have i2 : decide ((k : Int) < (j : Int)) = false := decide_eq_false (by omega)
        have i2n : decide (k < j) = false := decide_eq_false hkj
        have hS8 := Lib.hid (hstepj.out (hpyes.out hUt.out hq3'.out fun r hr => hne.out r (by omega)))
        go_wp2_with fail
        go_roundw
        case rel => exact ⟨j + 1, by omega, by go_num, hS8.out, hx5.out.right⟩
        case measure => simp [intOf]; omega
end Go.Proofs.Ytofcjpfbbeamnaa
