/- gantryref24.Check: it computes checkR. -/
import Derived.Test.YtoifcpdkophobaaGraphB
namespace Go.Proofs.Ytoifcpdkophobaa
open Go.RowKit

set_option maxHeartbeats 400000 in
theorem RCheck_any (n : Int) (v : Value) (m : Nat) (E : Nat → Ed) (w : World) (hv : EdsAt w v m E) (hm : m ≤ 1000000) (hn0 : -9223372036854775808 ≤ n) (hn1 : n ≤ 9223372036854775807) :
    Calls Try.prog 15 #[.int .i64 n, v] w fun e w' => e = .returned (.int .i64 (checkR n m E)) ∧ Below w.heap.size w w' := by
  have hv' := Lib.hid hv
  obtain ⟨A, c, rfl, hn, hr, hc⟩ := hv
  have hc' := Lib.hid hc
  have hr' := Lib.hid hr
  clear hc hr
  by_cases g0 : n < 0
  · go_enter Try.func15, Try.ntmps15
    go_wp2
    go_ret
    exact ⟨ret_int (check_n (by omega)).symm, Below.refl _ _⟩
  by_cases g1 : 4096 < n
  · go_enter Try.func15, Try.ntmps15
    go_wp2
    go_ret
    exact ⟨ret_int (check_n (by omega)).symm, Below.refl _ _⟩
  have g0' : 0 ≤ n := by omega
  have g1' : n ≤ 4096 := by omega
  clear g0 g1 hn0 hn1
  go_enter Try.func15, Try.ntmps15
  go_wp2
  go_loopw [5, 6] (fun s i wr => ∃ k : Nat, k ≤ m ∧ i = .int .i64 k ∧ Hid (edsB n E k = true) ∧ OwnL wr w.heap.size s ((List.range k).map fun i => (E i).wt) ∧ Below w.heap.size w wr) (fun _ i _ => m - (intOf i).toNat)
  case atStart => exact ⟨0, Nat.zero_le _, rfl, rfl, OwnL.nil _ _, Below.refl _ _⟩
  case round =>
    obtain ⟨k, hk, rfl, hs, hown, hb⟩ := hrel
    have hz := hb.size
    by_cases hlt : k < m
    · obtain ⟨b, o, rfl, hbl, hcs⟩ := hc'.out (by omega)
      obtain ⟨q0, q1, q2⟩ := hcs k hlt
      obtain ⟨⟨r0, r1⟩, ⟨r2, r3⟩, _⟩ := hr'.out k hlt
      clear hcs
      have c0 := (hb.cell (p := ⟨b, o + k * 3, none⟩) hbl).trans q0
      have c1 := (hb.cell (p := ⟨b, o + k * 3 + 1, none⟩) hbl).trans q1
      have c2 := (hb.cell (p := ⟨b, o + k * 3 + 2, none⟩) hbl).trans q2
      clear q0 q1 q2
      by_cases t0 : (E k).src < 0
      · go_wp2
        go_ret
        exact ⟨ret_int (check_ed g0' g1' hlt (edB_false (by omega))).symm, hb⟩
      by_cases t1 : n ≤ (E k).src
      · go_wp2
        go_ret
        exact ⟨ret_int (check_ed g0' g1' hlt (edB_false (by omega))).symm, hb⟩
      by_cases t2 : (E k).dst < 0
      · go_wp2
        go_ret
        exact ⟨ret_int (check_ed g0' g1' hlt (edB_false (by omega))).symm, hb⟩
      by_cases t3 : n ≤ (E k).dst
      · go_wp2
        go_ret
        exact ⟨ret_int (check_ed g0' g1' hlt (edB_false (by omega))).symm, hb⟩
      go_wp2_with (at_builtin; refine wpList_app1 rfl rfl _ _ rfl w.heap.size _ _ (E k).wt rfl (hown.alloc _) wr.heap.size 1 rfl ?c1 ?c2 ?c3 ?_)
      case c2 => omega
      case c3 => omega
      intro v' w1 hown' hbw hg
      go_wp2
      go_roundw
      case rel => exact ⟨k + 1, by omega, by go_num, edsB_next hs.out (by omega) (by omega), by rw [List.range_succ, List.map_append]; exact hown', (hb.alloc hz _).trans hbw⟩
      case measure => simp [intOf]; omega
    · go_wp2_with fail
      refine (RSum_any _ m (fun i => (E i).wt) _ _ ?_ (by omega) (by omega)).mono ?_
      · rw [show m = k by omega]
        exact hown.intsF (by omega) (fun i hi => (hr'.out i (by omega)).2.2)
      rintro e w2 ⟨rfl, rfl⟩
      have hR := check_sum g0' g1' (show k = m by omega) hs.out
      cases hst : sumTo (fun i => (E i).wt) 4611686018427387904 m with
      | none =>
        rw [if_pos hst] at hR
        have hR' := Lib.hid hR
        rw [show sumR (fun i => (E i).wt) 4611686018427387904 m = .tuple #[.int .i64 0, .bool false] from by unfold sumR; rw [hst]]
        clear hR hst
        go_wp2
        go_ret
        exact ⟨ret_int hR'.out.symm, hb⟩
      | some t =>
        rw [if_neg (by simp [hst])] at hR
        have hR' := Lib.hid hR
        rw [show sumR (fun i => (E i).wt) 4611686018427387904 m = .tuple #[.int .i64 t, .bool true] from by unfold sumR; rw [hst]]
        clear hR hst
        go_wp2
        go_ret
        exact ⟨ret_int hR'.out.symm, hb⟩
end Go.Proofs.Ytoifcpdkophobaa
