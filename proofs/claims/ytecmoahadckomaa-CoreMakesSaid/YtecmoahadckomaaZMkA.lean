/- A maker's node and kept. -/
import Derived.Test.YtecmoahadckomaaZMkWMkP
import Derived.Test.YtecmoahadckomaaZTermETermFNewY
import Derived.Test.YtecmoahadckomaaZTyWR6OpR6OpB
import Derived.Deep.RegionHeld3
import Derived.BigQuiet
import Derived.Deep.QuietTactic
import Derived.Deep.CutRange
namespace Go.Proofs.Ytecmoahadckomaa
open Go.RowKit Go.Maps
set_option maxRecDepth 100000

theorem ret_eq {v u : Value} (h : v = u) : Ending.returned v = Ending.returned u := by rw [h]
set_option maxHeartbeats 2000000 in
theorem MkKept_any (g : Nat) (most : Int) (s : CSt) (v' : Value) (m : Nat) (M : Nat → Nd) (x er : Int) (w : World) (hM : MkrAt w g most s) (hv : NdsAt w v' m M) :
    Calls Try.prog 64 #[.pointer (some ⟨g, 0, none⟩), .agg #[v'], .int .i64 x, .int .i64 er] w fun z w' => z = .returned (.int .i64 x) ∧ MkrAt w' g most (keptS s m M er) ∧ But [g] w.heap.size w w' := by
  have hl := hM.lt
  have hv1 := Lib.hid hv
  obtain ⟨A', c', rfl, -, -, -⟩ := hv
  have hb0 := Lib.hid (((Below.refl w.heap.size w).alloc (Nat.le_refl _) (.cells #[.slice A' m c'] 24)))
  have hM1 := Lib.hid (hM.below hb0.out)
  have hx0 := Lib.hid ((Bx.nil w).one (.slice A' m c') 24)
  obtain ⟨⟨r0, rz⟩, -⟩ := hx0.out.cells
  obtain ⟨A, c, q0, q1, q2, f0, f2, hN⟩ := hM1.out.cells
  have hne : (w.heap.size : Nat) ≠ g := by omega
  generalize hw1 : w.alloc (.cells #[.slice A' m c'] 24) = w1 at *
  have r1 : (w1.setCell ⟨g, 2, none⟩ (.int .i64 er)).cell? ⟨w.heap.size, 0, none⟩ = some (.slice A' m c') := (World.cell?_setCell_other _ _ _ _ (fun e => hne (by injection e with e; exact e.symm))).trans r0
  have hM2 := Lib.hid (hM1.out.setE er)
  obtain ⟨_, _, k0, k1, k2, g0, g2, -⟩ := hM2.out.cells
  have hv2 := Lib.hid (hM1.out.nds (hv1.out.below hb0.out) 2 (.int .i64 er))
  have hbu := Lib.hid ((But.of hb0.out [g]).setg 2 (.int .i64 er))
  clear hM hN hx0 hM1
  go_enter Try.func64, Try.ntmps64
  by_cases he : er = 0
  · subst he
    go_wp2_with fail
    go_ret
    exact ⟨rfl, by rw [keptS_ok]; exact hM2.out.setT hv2.out, hbu.out.setg _ _⟩
  · have d : (er == 0) = false := by simpa using he
    have hk := Lib.hid (keptS_no (s := s) (m := m) (M := M) he)
    clear he
    go_wp2_with fail
    go_ret
    exact ⟨rfl, by rw [hk.out]; exact hM2.out, hbu.out⟩
theorem ndRow (w : World) (e : Nd) : Bx w (rowK w.heap.size [.int .i8 e.op, .int .i8 e.len, .int .i64 e.a0, .int .i64 e.a1, .int .i64 e.a2, .int .i64 e.sort, .int .i64 e.fn, .int .i64 e.num] 0 ++ []) (w.alloc (.cells #[.int .i8 e.op, .int .i8 e.len, .int .i64 e.a0, .int .i64 e.a1, .int .i64 e.a2, .int .i64 e.sort, .int .i64 e.fn, .int .i64 e.num] 39)) := (Bx.nil w).row #[.int .i8 e.op, .int .i8 e.len, .int .i64 e.a0, .int .i64 e.a1, .int .i64 e.a2, .int .i64 e.sort, .int .i64 e.fn, .int .i64 e.num] 39
set_option maxHeartbeats 4000000 in
theorem MkNode_any (g : Nat) (most : Int) (s : CSt) (nd : Nd) (w : World) (hM : MkrAt w g most s) (hn : s.n ≤ 900000) (hR : NdR nd) (hm : R64 most) :
    Calls Try.prog 67 #[.pointer (some ⟨g, 0, none⟩), ndV nd] w (MkrPost g most (NodeR most s nd) w) := by
  have hl := hM.lt
  have hx0 := Lib.hid (ndRow w nd)
  have hM1 := Lib.hid (hM.below hx0.out.bel)
  obtain ⟨A, c, q0, q1, q2, f0, f2, hN⟩ := hM1.out.cells
  have hPu := Lib.hid fun (x : World) (hb : Below w.heap.size w x) => Put_any (.slice A s.n c) s.n s.N nd most x (by
    have h1 := hM.cells
    obtain ⟨A1, c1, z0, -, -, -, -, hN1⟩ := h1
    have e := ((hx0.out.bel.cell (p := ⟨g, 0, none⟩) hl).trans z0).symm.trans q0
    injection e with e
    rw [← e]
    exact hN1.below hb) (by omega) hR hm
  unfold ndV at hPu ⊢
  by_cases he : s.e = 0
  case neg =>
    have d : (s.e != 0) = true := by simpa using he
    have hr := Lib.hid (NodeR.err (most := most) (nd := nd) he)
    clear he hPu hM hN
    go_enter Try.func67, Try.ntmps67
    go_wp2_with fail
    go_ret
    exact ⟨s, 0, rfl, hr.out, hM1.out, But.of hx0.out.bel _⟩
  have d : (s.e != 0) = false := by rw [he]; rfl
  have hne : (w.heap.size : Nat) ≠ g := by omega
  have hwz : Hid ((w.alloc (.cells #[.int .i8 nd.op, .int .i8 nd.len, .int .i64 nd.a0, .int .i64 nd.a1, .int .i64 nd.a2, .int .i64 nd.sort, .int .i64 nd.fn, .int .i64 nd.num] 39)).heap.size = w.heap.size + 1) := by unfold Hid; simp
  have he' := Lib.hid he
  clear hM hN he
  go_enter Try.func67, Try.ntmps67
  generalize hw1 : w.alloc (.cells #[.int .i8 nd.op, .int .i8 nd.len, .int .i64 nd.a0, .int .i64 nd.a1, .int .i64 nd.a2, .int .i64 nd.sort, .int .i64 nd.fn, .int .i64 nd.num] 39) = w1 at *
  have hKp : ∀ {x : World}, Below w1.heap.size w1 x → (x.cell? ⟨g, 0, none⟩ = some (.slice A s.n c) ∧ x.cell? ⟨g, 1, none⟩ = some (.int .i64 most) ∧ x.cell? ⟨w.heap.size, 0, none⟩ = some (.int .i8 nd.op) ∧ x.cell? ⟨w.heap.size, 1, none⟩ = some (.int .i8 nd.len) ∧ x.cell? ⟨w.heap.size, 2, none⟩ = some (.int .i64 nd.a0) ∧ x.cell? ⟨w.heap.size, 3, none⟩ = some (.int .i64 nd.a1) ∧ x.cell? ⟨w.heap.size, 4, none⟩ = some (.int .i64 nd.a2) ∧ x.cell? ⟨w.heap.size, 5, none⟩ = some (.int .i64 nd.sort) ∧ x.cell? ⟨w.heap.size, 6, none⟩ = some (.int .i64 nd.fn) ∧ x.cell? ⟨w.heap.size, 7, none⟩ = some (.int .i64 nd.num)) := fun {x} hb => by
    have hwz' := hwz.out
    obtain ⟨⟨c0, -⟩, ⟨c1, -⟩, ⟨c2, -⟩, ⟨c3, -⟩, ⟨c4, -⟩, ⟨c5, -⟩, ⟨c6, -⟩, ⟨c7, -⟩, -⟩ := (hx0.out.step hb).cells
    exact ⟨(hb.cell (p := ⟨g, 0, none⟩) (by show g < _; omega)).trans q0, (hb.cell (p := ⟨g, 1, none⟩) (by show g < _; omega)).trans q1, c0, c1, c2, c3, c4, c5, c6, c7⟩
  have hb0 : Below w1.heap.size w1 w1.drew := (Below.refl _ _).drew
  have hbA : Below w1.heap.size w1 (w1.alloc (.cells #[.slice none 0 0] 24)).drew := ((Below.refl _ _).alloc (Nat.le_refl _) _).drew
  have hbA0 : Below w1.heap.size w1 (w1.alloc (.cells #[.slice none 0 0] 24)) := (Below.refl _ _).alloc (Nat.le_refl _) _
  go_upto_region 3 with fail
  clear hw1
  clear q0 q1 q2 f0 f2
  go_region_held3 (fun x => x.cell? ⟨g, 0, none⟩ = some (.slice A s.n c) ∧ x.cell? ⟨g, 1, none⟩ = some (.int .i64 most) ∧ x.cell? ⟨w.heap.size, 0, none⟩ = some (.int .i8 nd.op) ∧ x.cell? ⟨w.heap.size, 1, none⟩ = some (.int .i8 nd.len) ∧ x.cell? ⟨w.heap.size, 2, none⟩ = some (.int .i64 nd.a0) ∧ x.cell? ⟨w.heap.size, 3, none⟩ = some (.int .i64 nd.a1) ∧ x.cell? ⟨w.heap.size, 4, none⟩ = some (.int .i64 nd.a2) ∧ x.cell? ⟨w.heap.size, 5, none⟩ = some (.int .i64 nd.sort) ∧ x.cell? ⟨w.heap.size, 6, none⟩ = some (.int .i64 nd.fn) ∧ x.cell? ⟨w.heap.size, 7, none⟩ = some (.int .i64 nd.num))
    (first | exact hKp hb0 | exact hKp hbA | exact hKp hbA0 | exact hKp hb11 | exact hKp (hb11.alloc hb11.size _) | exact hKp (hb11.setCell (p := ⟨w1.heap.size, 0, none⟩) (Nat.le_refl _) _) | fail)
    (first | (go_at_call 83; (with_reducible refine (hPu.out _ (hx0.out.step hb0).bel).mono ?_); rintro e w11 ⟨v11, m11, M11, k11, er11, rfl, hPR, hN11, hb11⟩; replace hb11 := hb0.trans (hb11.mono hb0.size); have hN11' := Lib.hid hN11; obtain ⟨B11, c11, rfl, -, -, -⟩ := hN11) | (go_at_call 83; (with_reducible refine (hPu.out _ (hx0.out.step hbA).bel).mono ?_); rintro e w11 ⟨v11, m11, M11, k11, er11, rfl, hPR, hN11, hb11⟩; have kB : w11.cell? ⟨w1.heap.size, 0, none⟩ = some (.slice none 0 0) := (hb11.cell (p := ⟨w1.heap.size, 0, none⟩) (by simp)).trans (by simp); have fB : w11.frozen? ⟨w1.heap.size, 0, none⟩ = false := (hb11.frozen (p := ⟨w1.heap.size, 0, none⟩) (by simp)).trans (by simp); replace hb11 := hbA.trans (hb11.mono hbA.size); have hN11' := Lib.hid hN11; obtain ⟨B11, c11, rfl, -, -, -⟩ := hN11) | fail)
  · have hb12 : Below w1.heap.size w1 (w11.alloc (.cells #[.slice B11 m11 c11] 24)) := hb11.alloc hb11.size _
    have hN12 := Lib.hid (hN11'.out.alloc (.cells #[.slice B11 m11 c11] 24))
    have kT : (w11.alloc (.cells #[.slice B11 m11 c11] 24)).cell? ⟨w11.heap.size, 0, none⟩ = some (.slice B11 m11 c11) := by simp
    have hB : w11.heap.size ≠ g := by have := hb11.size; have := hwz.out; omega
    have hM12 := Lib.hid (hM1.out.below hb12)
    have hbS := Lib.hid ((But.of hx0.out.bel [g]).step hb12 (by have := hwz.out; omega))
    generalize w11.alloc (.cells #[.slice B11 m11 c11] 24) = W12 at *
    generalize w11.heap.size = B at *
    have hPR' := Lib.hid hPR
    obtain ⟨_, _, z0, z1, z2, y0, y2, -⟩ := hM12.out.cells
    have kT' : (W12.setCell ⟨g, 2, none⟩ (.int .i64 er11)).cell? ⟨B, 0, none⟩ = some (.slice B11 m11 c11) := (World.cell?_setCell_other _ _ _ _ (fun e => hB (by injection e with e; exact e.symm))).trans kT
    have hM13 := Lib.hid (hM12.out.setE er11)
    obtain ⟨_, _, x0, x1, x2, u0, u2, -⟩ := hM13.out.cells
    have hN13 := Lib.hid (hM12.out.nds hN12.out 2 (.int .i64 er11))
    have hbu := Lib.hid (hbS.out.setg 2 (.int .i64 er11))
    clear hPu hN12 hN11' hM12 hx0 hPR hM1 kT
    by_cases he2 : er11 = 0
    · subst he2
      go_wp2_with fail
      go_ret
      exact ⟨_, k11, rfl, .put he'.out _ _ _ _ hPR'.out, by rw [keptS_ok]; exact hM13.out.setT hN13.out, hbu.out.setg _ _⟩
    · have d2 : (er11 == 0) = false := by simpa using he2
      have hk := Lib.hid (keptS_no (s := s) (m := m11) (M := M11) he2)
      clear he2
      go_wp2_with fail
      go_ret
      exact ⟨_, k11, rfl, .put he'.out _ _ _ _ hPR'.out, by rw [hk.out]; exact hM13.out, hbu.out⟩
  · have hb12 : Below w1.heap.size w1 (w11.setCell ⟨w1.heap.size, 0, none⟩ (.slice B11 m11 c11)) := hb11.setCell (p := ⟨w1.heap.size, 0, none⟩) (Nat.le_refl _) _
    have hN12 := Lib.hid (hN11'.out.setBox kB (fun _ _ h => by cases h) (.slice B11 m11 c11))
    have kT : (w11.setCell ⟨w1.heap.size, 0, none⟩ (.slice B11 m11 c11)).cell? ⟨w1.heap.size, 0, none⟩ = some (.slice B11 m11 c11) := World.cell?_setCell_same' _ _ _ (by rw [kB]; rfl)
    have hB : w1.heap.size ≠ g := by have := hwz.out; omega
    have hM12 := Lib.hid (hM1.out.below hb12)
    have hbS := Lib.hid ((But.of hx0.out.bel [g]).step hb12 (by have := hwz.out; omega))
    clear hb12 hb11 hb0 hbA hbA0 hKp hwz kB fB
    generalize w11.setCell ⟨w1.heap.size, 0, none⟩ (.slice B11 m11 c11) = W12 at *
    generalize w1.heap.size = B at *
    have hPR' := Lib.hid hPR
    obtain ⟨_, _, z0, z1, z2, y0, y2, -⟩ := hM12.out.cells
    have kT' : (W12.setCell ⟨g, 2, none⟩ (.int .i64 er11)).cell? ⟨B, 0, none⟩ = some (.slice B11 m11 c11) := (World.cell?_setCell_other _ _ _ _ (fun e => hB (by injection e with e; exact e.symm))).trans kT
    have hM13 := Lib.hid (hM12.out.setE er11)
    obtain ⟨_, _, x0, x1, x2, u0, u2, -⟩ := hM13.out.cells
    have hN13 := Lib.hid (hM12.out.nds hN12.out 2 (.int .i64 er11))
    have hbu := Lib.hid (hbS.out.setg 2 (.int .i64 er11))
    clear hPu hN12 hN11' hM12 hx0 hPR hM1 kT
    by_cases he2 : er11 = 0
    · subst he2
      go_wp2_with fail
      go_ret
      exact ⟨_, k11, rfl, .put he'.out _ _ _ _ hPR'.out, by rw [keptS_ok]; exact hM13.out.setT hN13.out, hbu.out.setg _ _⟩
    · have d2 : (er11 == 0) = false := by simpa using he2
      have hk := Lib.hid (keptS_no (s := s) (m := m11) (M := M11) he2)
      clear he2
      go_wp2_with fail
      go_ret
      exact ⟨_, k11, rfl, .put he'.out _ _ _ _ hPR'.out, by rw [hk.out]; exact hM13.out, hbu.out⟩
end Go.Proofs.Ytecmoahadckomaa
