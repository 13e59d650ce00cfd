/- gantryref05.stands. -/
import Derived.Test.YtecmoahadckomaaZNodeArityStands
namespace Go.Proofs.Ytecmoahadckomaa
open Go.RowKit

set_option maxRecDepth 100000 in
set_option maxHeartbeats 4000000 in
theorem RStands_any (e : Nd) (at_ : Int) (w : World) (hr : NdR e) (_hat : R64 at_) :
    Calls Try.prog 29 #[ndV e, .int .i64 at_] w fun x w' => x = .returned (.bool (standsB e at_)) ∧ Below w.heap.size w w' := by
  unfold ndV
  have hr0 := hr
  obtain ⟨hop, ⟨l0, l1⟩, ha0, ha1, ha2, hsort, hfn, hnum⟩ := hr
  obtain ⟨W1, hW1⟩ : ∃ W1, W1 = w.alloc (.cells #[.int .i8 e.op, .int .i8 e.len, .int .i64 e.a0, .int .i64 e.a1, .int .i64 e.a2, .int .i64 e.sort, .int .i64 e.fn, .int .i64 e.num] 39) := ⟨_, rfl⟩
  have c0 : W1.cell? ⟨w.heap.size, 0, none⟩ = some (.int .i8 e.op) := by rw [hW1]; simp
  have c1 : W1.cell? ⟨w.heap.size, 1, none⟩ = some (.int .i8 e.len) := by rw [hW1]; simp
  have c2 : W1.cell? ⟨w.heap.size, 2, none⟩ = some (.int .i64 e.a0) := by rw [hW1]; simp
  have c3 : W1.cell? ⟨w.heap.size, 3, none⟩ = some (.int .i64 e.a1) := by rw [hW1]; simp
  have c4 : W1.cell? ⟨w.heap.size, 4, none⟩ = some (.int .i64 e.a2) := by rw [hW1]; simp
  have c5 : W1.cell? ⟨w.heap.size, 5, none⟩ = some (.int .i64 e.sort) := by rw [hW1]; simp
  have c6 : W1.cell? ⟨w.heap.size, 6, none⟩ = some (.int .i64 e.fn) := by rw [hW1]; simp
  have c7 : W1.cell? ⟨w.heap.size, 7, none⟩ = some (.int .i64 e.num) := by rw [hW1]; simp
  have hz1 : w.heap.size < W1.heap.size := by rw [hW1]; simp
  have hb1 : Below w.heap.size w W1 := by rw [hW1]; exact (Below.refl _ _).alloc (Nat.le_refl _) _
  have hW1' := Lib.hid hW1
  clear hW1
  by_cases hk2 : ar e.op = -2
  · have hno := Lib.hid (stands_no (e := e) (at_ := at_) fun h => h.kind hk2)
    have p0 : (ar e.op == -2) = true := by simp [hk2]
    clear hk2
    go_enter Try.func29, Try.ntmps29
    go_wp2_with fail
    rw [← hW1'.out]
    refine (RArity_any e.op W1 hop).mono ?_
    rintro x w2 ⟨rfl, rfl⟩
    generalize ar e.op = k at *
    go_wp2
    go_ret
    exact ⟨ret_bool hno.out.symm, hb1⟩
  have p0 : (ar e.op == -2) = false := by simpa using hk2
  have hrg := ar_range e.op
  by_cases hB : 0 ≤ ar e.op ∧ e.len ≠ ar e.op
  · have hno := Lib.hid (stands_no (e := e) (at_ := at_) fun h => hB.2 (h.len hB.1))
    have p1 : decide (0 ≤ ar e.op) = true := by simpa using hB.1
    have p2 : (e.len != ar e.op) = true := by simpa using hB.2
    clear hB hk2 hrg
    go_enter Try.func29, Try.ntmps29
    go_wp2_with fail
    rw [← hW1'.out]
    refine (RArity_any e.op W1 hop).mono ?_
    rintro x w2 ⟨rfl, rfl⟩
    generalize ar e.op = k at *
    go_wp2
    go_ret
    exact ⟨ret_bool hno.out.symm, hb1⟩
  have hcd : (decide (0 ≤ ar e.op) = true ∧ (e.len != ar e.op) = false) ∨ (decide (0 ≤ ar e.op) = false ∧ True) := by
    by_cases h : 0 ≤ ar e.op
    · exact .inl ⟨by simpa using h, by simp; omega⟩
    · exact .inr ⟨by simpa using h, trivial⟩
  by_cases h0 : e.len < 0
  · have hno := Lib.hid (stands_no (e := e) (at_ := at_) fun h => by have := h.len0; omega)
    have p3 : decide (e.len < 0) = true := by simpa using h0
    have p1 : decide (0 ≤ ar e.op) = false := by simp; omega
    clear hcd hB hk2 hrg h0
    go_enter Try.func29, Try.ntmps29
    go_wp2_with fail
    rw [← hW1'.out]
    refine (RArity_any e.op W1 hop).mono ?_
    rintro x w2 ⟨rfl, rfl⟩
    generalize ar e.op = k at *
    go_wp2
    go_ret
    exact ⟨ret_bool hno.out.symm, hb1⟩
  by_cases h3 : 3 < e.len
  · have hno := Lib.hid (stands_no (e := e) (at_ := at_) fun h => by have := h.len3; omega)
    have p3 : decide (e.len < 0) = false := by simpa using h0
    have p4 : decide (3 < e.len) = true := by simpa using h3
    have p1 : decide (0 ≤ ar e.op) = false := by simp; omega
    clear hcd hB hk2 hrg h0 h3
    go_enter Try.func29, Try.ntmps29
    go_wp2_with fail
    rw [← hW1'.out]
    refine (RArity_any e.op W1 hop).mono ?_
    rintro x w2 ⟨rfl, rfl⟩
    generalize ar e.op = k at *
    go_wp2
    go_ret
    exact ⟨ret_bool hno.out.symm, hb1⟩
  have p3 : decide (e.len < 0) = false := by simpa using h0
  have p4 : decide (3 < e.len) = false := by simpa using h3
  have hL : Hid ((0 ≤ ar e.op → e.len = ar e.op) ∧ 0 ≤ e.len ∧ e.len ≤ 3) := by
    refine ⟨fun h => ?_, by omega, by omega⟩
    exact Classical.byContradiction fun h' => hB ⟨h, h'⟩
  clear hB hrg
  have hk2' := Lib.hid hk2
  clear hk2
  rcases hcd with ⟨p1, p2⟩ | ⟨p1, p2⟩
  all_goals
    go_enter Try.func29, Try.ntmps29
    go_wp2_with fail
    rw [← hW1'.out]
    refine (RArity_any e.op W1 hop).mono ?_
    rintro x w2 ⟨rfl, rfl⟩
    go_wp2
    go_loop [6] (fun i => ∃ j : Nat, j ≤ 3 ∧ i = .int .i64 j ∧ Hid (∀ r, r < j → argP e at_ r)) (fun i => 3 - (intOf i).toNat)
    case atStart => exact ⟨0, by omega, rfl, fun r h => by omega⟩
    case round =>
      obtain ⟨j, hj, rfl, hs⟩ := hrel
      by_cases hlt : j < 3
      · have cx : W1.cell? ⟨w.heap.size, 2 + j, none⟩ = some (.int .i64 (e.arg j)) := by
          have hjj : j = 0 ∨ j = 1 ∨ j = 2 := by omega
          rcases hjj with rfl | rfl | rfl
          · exact c2
          · exact c3
          · exact c4
        clear c0 c2 c3 c4 c5 c6 c7
        obtain ⟨r0, r1⟩ := arg_R hr0 j
        by_cases k0 : (j : Int) < e.len
        · have d0 : decide ((j : Int) < e.len) = true := by simpa using k0
          have d1 : decide (e.len ≤ (j : Int)) = false := by simp; omega
          by_cases k1 : e.arg j < 0
          · have d2 : decide (e.arg j < 0) = true := by simpa using k1
            have hno := Lib.hid (stands_no (stands_arg (e := e) (at_ := at_) hlt fun h => by have := (h.1 k0).1; omega))
            clear k0 k1
            generalize e.arg j = a at *
            go_wp2
            go_ret
            exact ⟨ret_bool hno.out.symm, hb1⟩
          have d2 : decide (e.arg j < 0) = false := by simpa using k1
          by_cases k2 : at_ ≤ e.arg j
          · have d3 : decide (at_ ≤ e.arg j) = true := by simpa using k2
            have hno := Lib.hid (stands_no (stands_arg (e := e) (at_ := at_) hlt fun h => by have := (h.1 k0).2; omega))
            clear k0 k1 k2
            generalize e.arg j = a at *
            go_wp2
            go_ret
            exact ⟨ret_bool hno.out.symm, hb1⟩
          have d3 : decide (at_ ≤ e.arg j) = false := by simpa using k2
          have hA := Lib.hid (show argP e at_ j from ⟨fun h => by omega, fun h => by omega⟩)
          clear k0 k1 k2
          generalize e.arg j = a at *
          go_wp2
          go_round
          case rel =>
            refine ⟨j + 1, by omega, by go_num, fun r h => ?_⟩
            by_cases er : r = j
            · subst er; exact hA.out
            · exact hs.out r (by omega)
          case measure => simp [intOf]; omega
        · have d0 : decide ((j : Int) < e.len) = false := by simpa using k0
          have d1 : decide (e.len ≤ (j : Int)) = true := by simp; omega
          by_cases k1 : e.arg j = 0
          · have d2 : (e.arg j != 0) = false := by simp [k1]
            have hA := Lib.hid (show argP e at_ j from ⟨fun h => absurd h k0, fun h => k1⟩)
            clear k0 k1
            generalize e.arg j = a at *
            go_wp2
            go_round
            case rel =>
              refine ⟨j + 1, by omega, by go_num, fun r h => ?_⟩
              by_cases er : r = j
              · subst er; exact hA.out
              · exact hs.out r (by omega)
            case measure => simp [intOf]; omega
          have d2 : (e.arg j != 0) = true := by simpa using k1
          have hno := Lib.hid (stands_no (stands_arg (e := e) (at_ := at_) hlt fun h => by exact k1 (h.2 (by omega))))
          clear k0 k1
          generalize e.arg j = a at *
          go_wp2
          go_ret
          exact ⟨ret_bool hno.out.symm, hb1⟩
      · have hargs : Hid (∀ r, r < 3 → argP e at_ r) := fun r h => hs.out r (by omega)
        have hk2 := hk2'.out
        clear hs
        by_cases hF : 0 ≤ e.sort ∧ e.sort < 6 ∧ 0 ≤ e.fn ∧ e.fn < 12 ∧ (e.fn ≠ 0 → e.op = 13)
        · have hF' := Lib.hid hF
          have hmk : Hid ((e.op = 10 ∨ e.op = 11 ∨ e.op = 12 → mayB e.num = true) → (e.op ≠ 10 → e.op ≠ 11 → e.op ≠ 12 → e.num = 0) → StandsP e at_) := fun h1 h2 => by
            exact ⟨hk2, hL.out.1, hL.out.2.1, hL.out.2.2, hF'.out.1, hF'.out.2.1, hargs.out 0 (by omega), hargs.out 1 (by omega), hargs.out 2 (by omega), hF'.out.2.2.1, hF'.out.2.2.2.1, hF'.out.2.2.2.2, h1, h2⟩
          have s0 : decide (e.sort < 0) = false := by simp; omega
          have s1 : decide (6 ≤ e.sort) = false := by simp; omega
          have f0 : decide (e.fn < 0) = false := by simp; omega
          have f1 : decide (12 ≤ e.fn) = false := by simp; omega
          by_cases gp : e.op = 13
          · have o13 : e.op = 13 := gp
            have o10 : e.op ≠ 10 := by omega
            have o11 : e.op ≠ 11 := by omega
            have o12 : e.op ≠ 12 := by omega
            have f3 : (e.op != 13) = false := by simp [o13]
            have n10 : (e.op == 10) = false := by simpa using o10
            have n11 : (e.op == 11) = false := by simpa using o11
            have n12 : (e.op == 12) = false := by simpa using o12
            clear hF gp o13
            by_cases z0 : e.num = 0
            · have hyes := Lib.hid (stands_yes (hmk.out (fun h => by omega) (fun _ _ _ => z0)))
              have d0 : (e.num == 0) = true := by simp [z0]
              clear z0 o10 o11 o12
              go_wp2
              go_ret
              exact ⟨ret_bool hyes.out.symm, hb1⟩
            · have hno := Lib.hid (stands_no (e := e) (at_ := at_) fun h => z0 (h.num0 o10 o11 o12))
              have d0 : (e.num == 0) = false := by simpa using z0
              clear z0 o10 o11 o12
              go_wp2
              go_ret
              exact ⟨ret_bool hno.out.symm, hb1⟩
          have f2 : (e.fn != 0) = false := by simp; omega
          have f3 : (e.op != 13) = true := by simpa using gp
          clear hF gp
          by_cases o10 : e.op = 10
          · have hm : Hid (standsB e at_ = mayB e.num) := by
              cases hmy : mayB e.num with
              | true => exact stands_yes (hmk.out (fun _ => hmy) (fun h1 h2 h3 => by omega))
              | false => exact stands_no fun h => by rw [h.num (by omega)] at hmy; cases hmy
            have n10 : (e.op == 10) = true := by simp [o10]
            obtain ⟨m0, m1⟩ := hnum
            clear o10
            go_wp2_with fail
            refine (RMay_any e.num W1 m0 m1).mono ?_
            rintro x w2 ⟨rfl, rfl⟩
            go_wp2
            go_ret
            exact ⟨ret_bool hm.out.symm, hb1⟩
          have n10 : (e.op == 10) = false := by simpa using o10
          by_cases o11 : e.op = 11
          · have hm : Hid (standsB e at_ = mayB e.num) := by
              cases hmy : mayB e.num with
              | true => exact stands_yes (hmk.out (fun _ => hmy) (fun h1 h2 h3 => by omega))
              | false => exact stands_no fun h => by rw [h.num (by omega)] at hmy; cases hmy
            have n11 : (e.op == 11) = true := by simp [o11]
            obtain ⟨m0, m1⟩ := hnum
            clear o11
            go_wp2_with fail
            refine (RMay_any e.num W1 m0 m1).mono ?_
            rintro x w2 ⟨rfl, rfl⟩
            go_wp2
            go_ret
            exact ⟨ret_bool hm.out.symm, hb1⟩
          have n11 : (e.op == 11) = false := by simpa using o11
          by_cases o12 : e.op = 12
          · have hm : Hid (standsB e at_ = mayB e.num) := by
              cases hmy : mayB e.num with
              | true => exact stands_yes (hmk.out (fun _ => hmy) (fun h1 h2 h3 => by omega))
              | false => exact stands_no fun h => by rw [h.num (by omega)] at hmy; cases hmy
            have n12 : (e.op == 12) = true := by simp [o12]
            obtain ⟨m0, m1⟩ := hnum
            clear o12
            go_wp2_with fail
            refine (RMay_any e.num W1 m0 m1).mono ?_
            rintro x w2 ⟨rfl, rfl⟩
            go_wp2
            go_ret
            exact ⟨ret_bool hm.out.symm, hb1⟩
          have n12 : (e.op == 12) = false := by simpa using o12
          by_cases z0 : e.num = 0
          · have hyes := Lib.hid (stands_yes (hmk.out (fun h => by omega) (fun _ _ _ => z0)))
            have d0 : (e.num == 0) = true := by simp [z0]
            clear z0 o10 o11 o12
            go_wp2
            go_ret
            exact ⟨ret_bool hyes.out.symm, hb1⟩
          · have hno := Lib.hid (stands_no (e := e) (at_ := at_) fun h => z0 (h.num0 o10 o11 o12))
            have d0 : (e.num == 0) = false := by simpa using z0
            clear z0 o10 o11 o12
            go_wp2
            go_ret
            exact ⟨ret_bool hno.out.symm, hb1⟩
        · by_cases g0 : e.sort < 0
          · have s0 : decide (e.sort < 0) = true := by simpa using g0
            have hno := Lib.hid (stands_no (e := e) (at_ := at_) fun h => hF ⟨h.sort0, h.sort6, h.fn0, h.fn12, h.app⟩)
            clear hF g0
            go_wp2
            go_ret
            exact ⟨ret_bool hno.out.symm, hb1⟩
          have s0 : decide (e.sort < 0) = false := by simpa using g0
          clear g0
          by_cases g0 : 6 ≤ e.sort
          · have s1 : decide (6 ≤ e.sort) = true := by simpa using g0
            have hno := Lib.hid (stands_no (e := e) (at_ := at_) fun h => hF ⟨h.sort0, h.sort6, h.fn0, h.fn12, h.app⟩)
            clear hF g0
            go_wp2
            go_ret
            exact ⟨ret_bool hno.out.symm, hb1⟩
          have s1 : decide (6 ≤ e.sort) = false := by simpa using g0
          have g9 : 0 ≤ e.sort ∧ e.sort < 6 := by simp at s0; omega
          clear g0
          by_cases g0 : e.fn < 0
          · have f0 : decide (e.fn < 0) = true := by simpa using g0
            have hno := Lib.hid (stands_no (e := e) (at_ := at_) fun h => hF ⟨h.sort0, h.sort6, h.fn0, h.fn12, h.app⟩)
            clear hF g0
            go_wp2
            go_ret
            exact ⟨ret_bool hno.out.symm, hb1⟩
          have f0 : decide (e.fn < 0) = false := by simpa using g0
          by_cases g1 : 12 ≤ e.fn
          · have f1 : decide (12 ≤ e.fn) = true := by simpa using g1
            have hno := Lib.hid (stands_no (e := e) (at_ := at_) fun h => hF ⟨h.sort0, h.sort6, h.fn0, h.fn12, h.app⟩)
            clear hF g0 g1
            go_wp2
            go_ret
            exact ⟨ret_bool hno.out.symm, hb1⟩
          have f1 : decide (12 ≤ e.fn) = false := by simpa using g1
          have f2 : (e.fn != 0) = true := by simp; omega
          have f3 : (e.op != 13) = true := by simp; omega
          have hno := Lib.hid (stands_no (e := e) (at_ := at_) fun h => hF ⟨h.sort0, h.sort6, h.fn0, h.fn12, h.app⟩)
          clear hF g0 g1
          go_wp2
          go_ret
          exact ⟨ret_bool hno.out.symm, hb1⟩
end Go.Proofs.Ytecmoahadckomaa
