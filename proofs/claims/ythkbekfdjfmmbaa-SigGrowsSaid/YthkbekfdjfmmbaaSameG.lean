/- gantryref03.Same, gantryref04.sameMacro, Same: of two that read alike. -/
import Derived.Test.YthkbekfdjfmmbaaSigB
import Derived.Test.YthkbekfdjfmmbaaNode
import Derived.Deep.RegionHeld3
namespace Go.Proofs.Ythkbekfdjfmmbaa
open Go.RowKit
set_option maxRecDepth 100000

set_option maxHeartbeats 2000000 in
theorem XSame_any : ∀ (x : Sx) (k1 t1 l1 k2 t2 l2 : Value) (w : World), SxIs w x k1 t1 l1 → SxIs w x k2 t2 l2 →
    Calls Try.prog 70 #[.agg #[k1, t1, l1], .agg #[k2, t2, l2]] w fun e w' => e = .returned (.bool true) ∧ Below w.heap.size w w'
  | .nil, _, _, _, _, _, _, _, h, _ => h.elim
  | .mk k t n l, k1, t1, l1, k2, t2, l2, w, h1, h2 => by
    have ih := fun i => XSame_any (l i)
    obtain ⟨rfl, hk, rfl, ht, hl1⟩ := h1.row
    obtain ⟨rfl, -, rfl, -, hl2⟩ := h2.row
    have hl1' := Lib.hid hl1
    have hl2' := Lib.hid hl2
    have ih' := Lib.hid ih
    clear ih h1 h2
    obtain ⟨A, c, rfl, ⟨hn, hc⟩, -⟩ := hl1
    obtain ⟨A2, c2, rfl, ⟨hn2, hc2⟩, -⟩ := hl2
    have hx0 := Lib.hid ((((Bx.nil w).row #[.int .i8 k, .string t, .slice A n c] 41).row #[.int .i8 k, .string t, .slice A2 n c2] 41).cast (L := [(w.heap.size + 1, 0, .int .i8 k), (w.heap.size + 1, 1, .string t), (w.heap.size + 1, 2, .slice A2 n c2), (w.heap.size, 0, .int .i8 k), (w.heap.size, 1, .string t), (w.heap.size, 2, .slice A n c)]) (by simp [rowK]))
    have e0 : (k != k) = false := by simp
    have e1 : (t.toList != t.toList) = false := by simp
    have e2 : ((n : Int) != (n : Int)) = false := by simp
    go_enter Try.func70, Try.ntmps70
    go_wp2_with fail
    go_loopw [5] (fun i wr => ∃ j : Nat, j ≤ n ∧ i = .int .i64 j ∧ Hid (Bx w [(w.heap.size + 1, 0, .int .i8 k), (w.heap.size + 1, 1, .string t), (w.heap.size + 1, 2, .slice A2 n c2), (w.heap.size, 0, .int .i8 k), (w.heap.size, 1, .string t), (w.heap.size, 2, .slice A n c)] wr)) (fun i _ => n - (intOf i).toNat)
    case atStart => exact ⟨0, Nat.zero_le _, rfl, hx0.out⟩
    case round =>
      obtain ⟨j, hj, rfl, hx⟩ := hrel
      obtain ⟨_, _, ⟨k5, z1⟩, _, _, ⟨k2, z0⟩, _⟩ := hx.out.cells
      by_cases hlt : j < n
      · have i1 : decide ((j : Int) < (n : Int)) = true := decide_eq_true (by omega)
        obtain ⟨_, _, e, _, hcs⟩ := hl1'.out.below hx.out.bel
        injection e with e1 _ e3
        subst e1; subst e3
        obtain ⟨b, o, rfl, hbl, hcs⟩ := hcs (by omega)
        obtain ⟨_, _, _, c0, c1, c2', hxx⟩ := hcs j hlt
        obtain ⟨_, _, e, _, hcs2⟩ := hl2'.out.below hx.out.bel
        injection e with e1 _ e3
        subst e1; subst e3
        obtain ⟨b2, o2, rfl, hbl2, hcs2⟩ := hcs2 (by omega)
        obtain ⟨_, _, _, d0, d1, d2, hyy⟩ := hcs2 j hlt
        obtain ⟨kk, tt, AA, nn, cc, rfl, rfl, rfl⟩ := hxx.forms
        obtain ⟨kk2, tt2, AA2, nn2, cc2, rfl, rfl, rfl⟩ := hyy.forms
        clear hcs hcs2
        have hcall := Lib.hid fun x (hb : Below wr.heap.size wr x) => ih'.out j _ _ _ _ _ _ x (SxIs.below hb _ _ _ _ hxx) (SxIs.below hb _ _ _ _ hyy)
        clear hxx hyy
        have hb0 : Below wr.heap.size wr wr.drew := (Below.refl _ _).drew
        have hKp : ∀ {x : World}, Below wr.heap.size wr x → (x.cell? ⟨w.heap.size, 2, none⟩ = some (.slice (some ⟨b, o, none⟩) n c) ∧ x.cell? ⟨w.heap.size + 1, 2, none⟩ = some (.slice (some ⟨b2, o2, none⟩) n c2) ∧
            x.cell? ⟨b, o + j * 3, none⟩ = some (.int .i8 kk) ∧ x.cell? ⟨b, o + j * 3 + 1, none⟩ = some (.string tt) ∧ x.cell? ⟨b, o + j * 3 + 2, none⟩ = some (.slice AA nn cc) ∧
            x.cell? ⟨b2, o2 + j * 3, none⟩ = some (.int .i8 kk2) ∧ x.cell? ⟨b2, o2 + j * 3 + 1, none⟩ = some (.string tt2) ∧ x.cell? ⟨b2, o2 + j * 3 + 2, none⟩ = some (.slice AA2 nn2 cc2)) := fun h =>
          ⟨(h.cell (p := ⟨w.heap.size, 2, none⟩) z0).trans k2, (h.cell (p := ⟨w.heap.size + 1, 2, none⟩) z1).trans k5, (h.cell (p := ⟨b, o + j * 3, none⟩) hbl).trans c0, (h.cell (p := ⟨b, o + j * 3 + 1, none⟩) hbl).trans c1, (h.cell (p := ⟨b, o + j * 3 + 2, none⟩) hbl).trans c2',
            (h.cell (p := ⟨b2, o2 + j * 3, none⟩) hbl2).trans d0, (h.cell (p := ⟨b2, o2 + j * 3 + 1, none⟩) hbl2).trans d1, (h.cell (p := ⟨b2, o2 + j * 3 + 2, none⟩) hbl2).trans d2⟩
        clear c0 c1 c2' d0 d1 d2
        go_wp2_with fail
        clear k2 k5
        go_region_held3 (fun x => x.cell? ⟨w.heap.size, 2, none⟩ = some (.slice (some ⟨b, o, none⟩) n c) ∧ x.cell? ⟨w.heap.size + 1, 2, none⟩ = some (.slice (some ⟨b2, o2, none⟩) n c2) ∧
            x.cell? ⟨b, o + j * 3, none⟩ = some (.int .i8 kk) ∧ x.cell? ⟨b, o + j * 3 + 1, none⟩ = some (.string tt) ∧ x.cell? ⟨b, o + j * 3 + 2, none⟩ = some (.slice AA nn cc) ∧
            x.cell? ⟨b2, o2 + j * 3, none⟩ = some (.int .i8 kk2) ∧ x.cell? ⟨b2, o2 + j * 3 + 1, none⟩ = some (.string tt2) ∧ x.cell? ⟨b2, o2 + j * 3 + 2, none⟩ = some (.slice AA2 nn2 cc2))
          (first | exact hKp hb0 | exact hKp hb7 | fail)
          (first | (go_at_call 70; (with_reducible refine (hcall.out _ hb0).mono ?_); rintro e w7 ⟨rfl, hb7⟩; replace hb7 := hb0.trans hb7) | fail)
        all_goals (have hx7 := Lib.hid (hx.out.step hb7))
        all_goals go_wp2_with fail
        go_roundw
        case rel => exact ⟨j + 1, by omega, by go_num, hx7.out⟩
        case measure => simp [intOf]; omega
      · have i1 : decide ((j : Int) < (n : Int)) = false := decide_eq_false (by omega)
        go_wp2_with fail
        go_ret
        exact ⟨rfl, hx.out.bel⟩

theorem run_eqPm (s : ByteArray) (x : Int) (W : World) : (Op.equalIn 10000 105 (.agg #[.string s, .int .i64 x]) (.agg #[.string s, .int .i64 x])).run Try.prog W = .ok true W := by
  go_simp
theorem run_eqFn (s : ByteArray) (x0 x1 x2 x3 x4 : Int) (W : World) : (Op.equalIn 10000 29 (.agg #[.string s, .int .i64 x0, .int .i64 x1, .int .i64 x2, .int .i64 x3, .int .i64 x4]) (.agg #[.string s, .int .i64 x0, .int .i64 x1, .int .i64 x2, .int .i64 x3, .int .i64 x4])).run Try.prog W = .ok true W := by
  have harr := run_eqArr
  go_simp
def bx6 (b : Nat) (v0 v1 v2 v3 v4 v5 : Value) : List (Nat × Nat × Value) := [(b, 0, v0), (b, 1, v1), (b, 2, v2), (b, 3, v3), (b, 4, v4), (b, 5, v5)]
set_option maxHeartbeats 4000000 in
theorem sameMacro_any (m : Mc) (u0 u1 u2 u3 u4 u5 v0 v1 v2 v3 v4 v5 : Value) (w : World) (hU : McIs w m u0 u1 u2 u3 u4 u5) (hV : McIs w m v0 v1 v2 v3 v4 v5) :
    Calls Try.prog 44 #[.agg #[u0, u1, u2, u3, u4, u5], .agg #[v0, v1, v2, v3, v4, v5]] w fun e w' => e = .returned (.bool true) ∧ Below w.heap.size w w' := by
  obtain ⟨rfl, -, hP, rfl, -, hB⟩ := hU
  obtain ⟨rfl, -, hP2, rfl, -, hB2⟩ := hV
  have hP' := Lib.hid hP
  have hP2' := Lib.hid hP2
  obtain ⟨PA, pc, rfl, ⟨hp1, hp2⟩, -⟩ := hP
  obtain ⟨PA2, pc2, rfl, ⟨hq1, hq2⟩, -⟩ := hP2
  obtain ⟨kk, tt, AA, nn, cc, rfl, rfl, rfl⟩ := hB.forms
  obtain ⟨kk2, tt2, AA2, nn2, cc2, rfl, rfl, rfl⟩ := hB2.forms
  have hx0 := Lib.hid ((((Bx.nil w).row #[.string m.name, .slice PA m.np pc, .int .i64 m.res, .int .i8 kk, .string tt, .slice AA nn cc] 44).row #[.string m.name, .slice PA2 m.np pc2, .int .i64 m.res, .int .i8 kk2, .string tt2, .slice AA2 nn2 cc2] 44).cast
    (L := bx6 (w.heap.size + 1) (.string m.name) (.slice PA2 m.np pc2) (.int .i64 m.res) (.int .i8 kk2) (.string tt2) (.slice AA2 nn2 cc2) ++ bx6 w.heap.size (.string m.name) (.slice PA m.np pc) (.int .i64 m.res) (.int .i8 kk) (.string tt) (.slice AA nn cc)) (by simp [rowK, bx6]))
  have hcall := Lib.hid (XSame_any m.body _ _ _ _ _ _ _ (SxIs.below hx0.out.bel _ _ _ _ hB) (SxIs.below hx0.out.bel _ _ _ _ hB2))
  have heq := run_eqPm
  clear hB hB2
  go_enter Try.func44, Try.ntmps44
  go_wp2_with fail
  refine hcall.out.mono ?_
  rintro e w1 ⟨rfl, hb1⟩
  have hx1 := Lib.hid (hx0.out.step hb1)
  clear hb1 hx0 hcall
  go_wp2_with fail
  go_loopw [5] (fun i wr => ∃ j : Nat, j ≤ m.np ∧ i = .int .i64 j ∧ Hid (Bx w (bx6 (w.heap.size + 1) (.string m.name) (.slice PA2 m.np pc2) (.int .i64 m.res) (.int .i8 kk2) (.string tt2) (.slice AA2 nn2 cc2) ++ bx6 w.heap.size (.string m.name) (.slice PA m.np pc) (.int .i64 m.res) (.int .i8 kk) (.string tt) (.slice AA nn cc)) wr)) (fun i _ => m.np - (intOf i).toNat)
  case atStart => exact ⟨0, Nat.zero_le _, rfl, hx1.out⟩
  case round =>
    obtain ⟨j, hj, rfl, hx⟩ := hrel
    obtain ⟨_, ⟨k2, _⟩, _⟩ := hx.out.left.cells
    obtain ⟨_, ⟨k1, _⟩, _⟩ := hx.out.right.cells
    by_cases hlt : j < m.np
    · have i1 : decide ((j : Int) < (m.np : Int)) = true := decide_eq_true (by omega)
      obtain ⟨_, _, e, _, hcs⟩ := hP'.out.below hx.out.bel
      injection e with e1 _ e3
      subst e1; subst e3
      obtain ⟨b, o, rfl, hbl, hcs⟩ := hcs (by omega)
      obtain ⟨⟨c0, c1⟩, -, -⟩ := hcs j hlt
      obtain ⟨_, _, e, _, hcs2⟩ := hP2'.out.below hx.out.bel
      injection e with e1 _ e3
      subst e1; subst e3
      obtain ⟨b2, o2, rfl, hbl2, hcs2⟩ := hcs2 (by omega)
      obtain ⟨⟨d0, d1⟩, -, -⟩ := hcs2 j hlt
      clear hcs hcs2
      go_wp2_with fail
      go_quiet (fail)
      go_wp2_with fail
      go_roundw
      case rel => exact ⟨j + 1, by omega, by go_num, hx.out.drewN _⟩
      case measure => simp [intOf]; omega
    · have i1 : decide ((j : Int) < (m.np : Int)) = false := decide_eq_false (by omega)
      go_wp2_with fail
      go_ret
      exact ⟨rfl, hx.out.bel⟩
set_option maxHeartbeats 8000000 in
theorem Same_any (s f m s' f' m' : Value) (g : Sg) (w : World) (h : SgAt w s f m g) (h' : SgAt w s' f' m' g) (hns : g.ns ≤ 1000 ∧ g.nf ≤ 1000 ∧ g.nm ≤ 1000) :
    Calls Try.prog 18 #[.agg #[s, f, m], .agg #[s', f', m']] w fun e w' => e = .returned (.bool true) ∧ Below w.heap.size w w' := by
  obtain ⟨hn1, hn2, hn3⟩ := hns
  have hG := Lib.hid h
  have hG' := Lib.hid h'
  obtain ⟨A, c, rfl, ⟨ha1, ha2⟩, -⟩ := h.1
  obtain ⟨FA, fc, rfl, ⟨hf1, hf2⟩, -⟩ := h.2.1
  obtain ⟨MA, mc, rfl, ⟨hm1, hm2⟩, -⟩ := h.2.2
  obtain ⟨A', c', rfl, ⟨ha3, ha4⟩, -⟩ := h'.1
  obtain ⟨FA', fc', rfl, ⟨hf3, hf4⟩, -⟩ := h'.2.1
  obtain ⟨MA', mc', rfl, ⟨hm3, hm4⟩, -⟩ := h'.2.2
  clear h h'
  have hx0 := Lib.hid ((((Bx.nil w).row #[.slice A g.ns c, .slice FA g.nf fc, .slice MA g.nm mc] 26).row #[.slice A' g.ns c', .slice FA' g.nf fc', .slice MA' g.nm mc'] 26).cast
    (L := [(w.heap.size + 1, 0, .slice A' g.ns c'), (w.heap.size + 1, 1, .slice FA' g.nf fc'), (w.heap.size + 1, 2, .slice MA' g.nm mc'), (w.heap.size, 0, .slice A g.ns c), (w.heap.size, 1, .slice FA g.nf fc), (w.heap.size, 2, .slice MA g.nm mc)]) (by simp [rowK]))
  have heq := run_eqFn
  go_enter Try.func18, Try.ntmps18
  go_wp2_with fail
  go_loopw [5] (fun i wr => ∃ j : Nat, j ≤ g.ns ∧ i = .int .i64 j ∧ Hid (Bx w [(w.heap.size + 1, 0, .slice A' g.ns c'), (w.heap.size + 1, 1, .slice FA' g.nf fc'), (w.heap.size + 1, 2, .slice MA' g.nm mc'), (w.heap.size, 0, .slice A g.ns c), (w.heap.size, 1, .slice FA g.nf fc), (w.heap.size, 2, .slice MA g.nm mc)] wr)) (fun i _ => g.ns - (intOf i).toNat)
  case atStart => exact ⟨0, Nat.zero_le _, rfl, hx0.out⟩
  case round =>
    clear hx0
    obtain ⟨j, hj, rfl, hx⟩ := hrel
    obtain ⟨⟨k3, _⟩, ⟨k4, _⟩, ⟨k5, _⟩, ⟨k0, _⟩, ⟨k1, _⟩, ⟨k2, _⟩, _⟩ := hx.out.cells
    by_cases hlt : j < g.ns
    · have i1 : decide ((j : Int) < (g.ns : Int)) = true := decide_eq_true (by omega)
      obtain ⟨_, _, e, _, hcs⟩ := hG.out.1.below hx.out.bel
      injection e with e1 _ e3
      subst e1; subst e3
      obtain ⟨b, o, rfl, hbl, hcs⟩ := hcs (by omega)
      obtain ⟨q0, -⟩ := hcs j hlt
      obtain ⟨_, _, e, _, hcs2⟩ := hG'.out.1.below hx.out.bel
      injection e with e1 _ e3
      subst e1; subst e3
      obtain ⟨b2, o2, rfl, hbl2, hcs2⟩ := hcs2 (by omega)
      obtain ⟨d0, -⟩ := hcs2 j hlt
      rw [Nat.mul_one] at q0 d0
      clear hcs hcs2
      go_wp2_with fail
      go_quiet (fail)
      go_wp2_with fail
      go_roundw
      case rel => exact ⟨j + 1, by omega, by go_num, hx.out.drewN _⟩
      case measure => simp [intOf]; omega
    · have i1 : decide ((j : Int) < (g.ns : Int)) = false := decide_eq_false (by omega)
      go_wp2_with fail
      go_loopw [6] (fun i wr => ∃ j : Nat, j ≤ g.nf ∧ i = .int .i64 j ∧ Hid (Bx w [(w.heap.size + 1, 0, .slice A' g.ns c'), (w.heap.size + 1, 1, .slice FA' g.nf fc'), (w.heap.size + 1, 2, .slice MA' g.nm mc'), (w.heap.size, 0, .slice A g.ns c), (w.heap.size, 1, .slice FA g.nf fc), (w.heap.size, 2, .slice MA g.nm mc)] wr)) (fun i _ => g.nf - (intOf i).toNat)
      case atStart => exact ⟨0, Nat.zero_le _, rfl, hx.out⟩
      case round =>
        clear hx k0 k1 k2 k3 k4 k5 i1 hlt hj
        obtain ⟨j, hj, rfl, hx⟩ := hrel
        obtain ⟨⟨k3, _⟩, ⟨k4, _⟩, ⟨k5, _⟩, ⟨k0, _⟩, ⟨k1, _⟩, ⟨k2, _⟩, _⟩ := hx.out.cells
        by_cases hlt : j < g.nf
        · have i1 : decide ((j : Int) < (g.nf : Int)) = true := decide_eq_true (by omega)
          obtain ⟨_, _, e, _, hcs⟩ := hG.out.2.1.below hx.out.bel
          injection e with e1 _ e3
          subst e1; subst e3
          obtain ⟨b, o, rfl, hbl, hcs⟩ := hcs (by omega)
          obtain ⟨⟨q0, q1, q2, q3, q4, q5⟩, -⟩ := hcs j hlt
          obtain ⟨_, _, e, _, hcs2⟩ := hG'.out.2.1.below hx.out.bel
          injection e with e1 _ e3
          subst e1; subst e3
          obtain ⟨b2, o2, rfl, hbl2, hcs2⟩ := hcs2 (by omega)
          obtain ⟨⟨d0, d1, d2, d3, d4, d5⟩, -⟩ := hcs2 j hlt
          clear hcs hcs2
          go_wp2_with fail
          go_quiet (fail)
          go_wp2_with fail
          go_roundw
          case rel => exact ⟨j + 1, by omega, by go_num, hx.out.drewN _⟩
          case measure => simp [intOf]; omega
        · have i1 : decide ((j : Int) < (g.nf : Int)) = false := decide_eq_false (by omega)
          clear heq
          go_wp2_with fail
          go_loopw [7] (fun i wr => ∃ j : Nat, j ≤ g.nm ∧ i = .int .i64 j ∧ Hid (Bx w [(w.heap.size + 1, 0, .slice A' g.ns c'), (w.heap.size + 1, 1, .slice FA' g.nf fc'), (w.heap.size + 1, 2, .slice MA' g.nm mc'), (w.heap.size, 0, .slice A g.ns c), (w.heap.size, 1, .slice FA g.nf fc), (w.heap.size, 2, .slice MA g.nm mc)] wr)) (fun i _ => g.nm - (intOf i).toNat)
          case atStart => exact ⟨0, Nat.zero_le _, rfl, hx.out⟩
          case round =>
            clear hx k0 k1 k2 k3 k4 k5 i1 hlt hj
            obtain ⟨j, hj, rfl, hx⟩ := hrel
            obtain ⟨_, _, ⟨k5, z1⟩, _, _, ⟨k2, z0⟩, _⟩ := hx.out.cells
            by_cases hlt : j < g.nm
            · have i1 : decide ((j : Int) < (g.nm : Int)) = true := decide_eq_true (by omega)
              obtain ⟨_, _, e, _, hcs⟩ := hG.out.2.2.below hx.out.bel
              injection e with e1 _ e3
              subst e1; subst e3
              obtain ⟨b, o, rfl, hbl, hcs⟩ := hcs (by omega)
              obtain ⟨u0, u1, u2, u3, u4, u5, ⟨q0, q1, q2, q3, q4, q5⟩, hU⟩ := hcs j hlt
              obtain ⟨_, _, e, _, hcs2⟩ := hG'.out.2.2.below hx.out.bel
              injection e with e1 _ e3
              subst e1; subst e3
              obtain ⟨b2, o2, rfl, hbl2, hcs2⟩ := hcs2 (by omega)
              obtain ⟨v0, v1, v2, v3, v4, v5, ⟨d0, d1, d2, d3, d4, d5⟩, hV⟩ := hcs2 j hlt
              clear hcs hcs2
              have hcall := Lib.hid fun x (hb : Below wr.heap.size wr x) => sameMacro_any (g.M j) _ _ _ _ _ _ _ _ _ _ _ _ x (hU.below hb) (hV.below hb)
              have hU0 := hU
              have hV0 := hV
              obtain ⟨rfl, -, hP, rfl, -, hB⟩ := hU0
              obtain ⟨rfl, -, hP2, rfl, -, hB2⟩ := hV0
              obtain ⟨PA, pc, rfl, -, -⟩ := hP
              obtain ⟨PA2, pc2, rfl, -, -⟩ := hP2
              obtain ⟨kk, tt, AA, nn, cc, rfl, rfl, rfl⟩ := hB.forms
              obtain ⟨kk2, tt2, AA2, nn2, cc2, rfl, rfl, rfl⟩ := hB2.forms
              clear hB hB2 hU hV
              have hb0 : Below wr.heap.size wr wr.drew := (Below.refl _ _).drew
              have hKp : ∀ {x : World}, Below wr.heap.size wr x → (x.cell? ⟨w.heap.size, 2, none⟩ = some (.slice (some ⟨b, o, none⟩) g.nm mc) ∧ x.cell? ⟨w.heap.size + 1, 2, none⟩ = some (.slice (some ⟨b2, o2, none⟩) g.nm mc') ∧
                  x.cell? ⟨b, o + j * 6, none⟩ = some (.string (g.M j).name) ∧ x.cell? ⟨b, o + j * 6 + 1, none⟩ = some (.slice PA (g.M j).np pc) ∧ x.cell? ⟨b, o + j * 6 + 2, none⟩ = some (.int .i64 (g.M j).res) ∧ x.cell? ⟨b, o + j * 6 + 3, none⟩ = some (.int .i8 kk) ∧ x.cell? ⟨b, o + j * 6 + 4, none⟩ = some (.string tt) ∧ x.cell? ⟨b, o + j * 6 + 5, none⟩ = some (.slice AA nn cc) ∧
                  x.cell? ⟨b2, o2 + j * 6, none⟩ = some (.string (g.M j).name) ∧ x.cell? ⟨b2, o2 + j * 6 + 1, none⟩ = some (.slice PA2 (g.M j).np pc2) ∧ x.cell? ⟨b2, o2 + j * 6 + 2, none⟩ = some (.int .i64 (g.M j).res) ∧ x.cell? ⟨b2, o2 + j * 6 + 3, none⟩ = some (.int .i8 kk2) ∧ x.cell? ⟨b2, o2 + j * 6 + 4, none⟩ = some (.string tt2) ∧ x.cell? ⟨b2, o2 + j * 6 + 5, none⟩ = some (.slice AA2 nn2 cc2)) := fun h =>
                ⟨(h.cell (p := ⟨w.heap.size, 2, none⟩) z0).trans k2, (h.cell (p := ⟨w.heap.size + 1, 2, none⟩) z1).trans k5,
                  (h.cell (p := ⟨b, o + j * 6, none⟩) hbl).trans q0, (h.cell (p := ⟨b, o + j * 6 + 1, none⟩) hbl).trans q1, (h.cell (p := ⟨b, o + j * 6 + 2, none⟩) hbl).trans q2, (h.cell (p := ⟨b, o + j * 6 + 3, none⟩) hbl).trans q3, (h.cell (p := ⟨b, o + j * 6 + 4, none⟩) hbl).trans q4, (h.cell (p := ⟨b, o + j * 6 + 5, none⟩) hbl).trans q5,
                  (h.cell (p := ⟨b2, o2 + j * 6, none⟩) hbl2).trans d0, (h.cell (p := ⟨b2, o2 + j * 6 + 1, none⟩) hbl2).trans d1, (h.cell (p := ⟨b2, o2 + j * 6 + 2, none⟩) hbl2).trans d2, (h.cell (p := ⟨b2, o2 + j * 6 + 3, none⟩) hbl2).trans d3, (h.cell (p := ⟨b2, o2 + j * 6 + 4, none⟩) hbl2).trans d4, (h.cell (p := ⟨b2, o2 + j * 6 + 5, none⟩) hbl2).trans d5⟩
              clear q0 q1 q2 q3 q4 q5 d0 d1 d2 d3 d4 d5
              go_wp2_with fail
              clear k2 k5
              go_region_held3 (fun x => x.cell? ⟨w.heap.size, 2, none⟩ = some (.slice (some ⟨b, o, none⟩) g.nm mc) ∧ x.cell? ⟨w.heap.size + 1, 2, none⟩ = some (.slice (some ⟨b2, o2, none⟩) g.nm mc') ∧
                  x.cell? ⟨b, o + j * 6, none⟩ = some (.string (g.M j).name) ∧ x.cell? ⟨b, o + j * 6 + 1, none⟩ = some (.slice PA (g.M j).np pc) ∧ x.cell? ⟨b, o + j * 6 + 2, none⟩ = some (.int .i64 (g.M j).res) ∧ x.cell? ⟨b, o + j * 6 + 3, none⟩ = some (.int .i8 kk) ∧ x.cell? ⟨b, o + j * 6 + 4, none⟩ = some (.string tt) ∧ x.cell? ⟨b, o + j * 6 + 5, none⟩ = some (.slice AA nn cc) ∧
                  x.cell? ⟨b2, o2 + j * 6, none⟩ = some (.string (g.M j).name) ∧ x.cell? ⟨b2, o2 + j * 6 + 1, none⟩ = some (.slice PA2 (g.M j).np pc2) ∧ x.cell? ⟨b2, o2 + j * 6 + 2, none⟩ = some (.int .i64 (g.M j).res) ∧ x.cell? ⟨b2, o2 + j * 6 + 3, none⟩ = some (.int .i8 kk2) ∧ x.cell? ⟨b2, o2 + j * 6 + 4, none⟩ = some (.string tt2) ∧ x.cell? ⟨b2, o2 + j * 6 + 5, none⟩ = some (.slice AA2 nn2 cc2))
                (first | exact hKp hb0 | exact hKp hb7 | fail)
                (first | (go_at_call 44; (with_reducible refine (hcall.out _ hb0).mono ?_); rintro e w7 ⟨rfl, hb7⟩; replace hb7 := hb0.trans hb7) | fail)
              all_goals (have hx7 := Lib.hid (hx.out.step hb7))
              all_goals go_wp2_with fail
              go_roundw
              case rel => exact ⟨j + 1, by omega, by go_num, hx7.out⟩
              case measure => simp [intOf]; omega
            · have i1 : decide ((j : Int) < (g.nm : Int)) = false := decide_eq_false (by omega)
              go_wp2_with fail
              go_ret
              exact ⟨rfl, hx.out.bel⟩
end Go.Proofs.Ythkbekfdjfmmbaa
