/- The law GraphMore: the walk. -/
import Derived.Test.YtoifcpdkophobaaGraphK
namespace Go.Proofs.Ytoifcpdkophobaa
open Go.RowKit

def E0 : Nat → Ed := fun _ => ⟨0, 0, 0⟩
theorem OwnE.first {w : World} {base m : Nat} {v : Value} {E F : Nat → Ed} (h : OwnE w base v (0 + m) (cat 0 F E)) : OwnE w base v m E := by
  rw [Nat.zero_add] at h
  exact OwnG.congr h fun _ _ => rfl
theorem OwnE.lit0 (w : World) (base : Nat) (hb : base ≤ w.heap.size) : OwnE (w.alloc (.cells #[] 34)) base (.slice (some ⟨w.heap.size, 0, none⟩) 0 0) 0 E0 := OwnG.lit0 w base _ 3 _ hb
theorem cat_r64 {w w' : World} {v u : Value} {m k : Nat} {E F : Nat → Ed} (h : EdsAt w v m E) (h' : EdsAt w' u k F) : ∀ i, i < m + k → R64 (cat m E F i).src ∧ R64 (cat m E F i).dst ∧ R64 (cat m E F i).wt :=
  (cat_all (fun e => R64 e.src ∧ R64 e.dst ∧ R64 e.wt)).2 ⟨h.ranges, h'.ranges⟩

set_option maxHeartbeats 1600000 in
theorem More_any (n : Int) (v u : Value) (m k : Nat) (E F : Nat → Ed) (w : World) (hv : EdsAt w v m E) (hu : EdsAt w u k F) (hn0 : -9223372036854775808 ≤ n) (hn1 : n ≤ 9223372036854775807) :
    Calls Try.prog 5 #[.int .i64 n, v, u] w fun e w' => e = .returned (.bool true) ∧ Below w.heap.size w w' := by
  have hv' := Lib.hid hv
  have hu' := Lib.hid hu
  obtain ⟨A, c, rfl, hm, _⟩ := hv
  obtain ⟨A2, c2, rfl, hk, _⟩ := hu
  by_cases g1 : 200 < m
  · go_enter Try.func5, Try.ntmps5
    go_wp2_with fail
    refine (wakes24_any w).mono ?_
    rintro e w1 ⟨rfl, hb⟩
    go_wp2
    go_ret
    exact ⟨rfl, hb⟩
  by_cases g2 : 200 < k
  · go_enter Try.func5, Try.ntmps5
    go_wp2_with fail
    refine (wakes24_any w).mono ?_
    rintro e w1 ⟨rfl, hb⟩
    go_wp2
    go_ret
    exact ⟨rfl, hb⟩
  have g1' : m ≤ 200 := by omega
  have g2' : k ≤ 200 := by omega
  have d1 : decide (200 < m) = false := by simp; omega
  have d2 : decide (200 < k) = false := by simp; omega
  have d3 : decide ((200 : Int) < (m : Int)) = false := by simp; omega
  have d4 : decide ((200 : Int) < (k : Int)) = false := by simp; omega
  clear g1 g2
  by_cases hg : 60 < n ∨ 200 < m + k
  · have hg' : Hid ((decide (60 < n) || decide (200 < m + k)) = true) := by unfold Hid; simp; omega
    clear hg
    go_enter Try.func5, Try.ntmps5
    go_wp2_with (at_builtin; refine wpList_appE rfl (.tmp 29) (.tmp 30) rfl w.heap.size _ 0 E0 rfl ?o1 _ m E rfl ?x1 ?n1 ?b1 ?_)
    case o1 => exact OwnE.lit0 w _ (Nat.le_refl _)
    case x1 => exact hv'.out.below ((Below.refl _ _).alloc (Nat.le_refl _) _)
    case n1 => omega
    case b1 => simp
    intro v1 w1 o1 hb1
    have o1 : OwnE w1 w.heap.size v1 m E := OwnE.first (F := E0) (by rw [Nat.zero_add]; exact o1)
    have hb1' : Below w.heap.size w w1 := ((Below.refl _ _).alloc (Nat.le_refl _) _).trans hb1
    clear hb1
    go_wp2_with (at_builtin; refine wpList_appE rfl (.tmp 31) (.tmp 32) rfl w.heap.size _ m E rfl o1 _ k F rfl ?x2 ?n2 ?b2 ?_)
    case x2 => exact hu'.out.below hb1'
    case n2 => omega
    case b2 => exact hb1'.size
    intro v2 w2 o2 hb2
    have e2 := o2.at_ (by omega) (cat_r64 hv'.out hu'.out)
    have hb2' := hb1'.trans hb2
    clear hb2 o1
    obtain ⟨A3, c3, rfl, hm3, _⟩ := e2
    go_wp2_with fail
    refine (Great_any n A3 (m + k) c3 _ hm3).mono ?_
    rintro e w3 ⟨rfl, rfl⟩
    rw [hg'.out]
    go_wp2_with fail
    refine (wakes24_any w2).mono ?_
    rintro e w3 ⟨rfl, hb3⟩
    go_wp2
    go_ret
    exact ⟨rfl, hb2'.trans (hb3.mono hb2'.size)⟩
  have hg' : Hid ((decide (60 < n) || decide (200 < m + k)) = false) := by unfold Hid; simp; omega
  have hn6 : n ≤ 60 := by omega
  have hmk : m + k ≤ 200 := by omega
  clear hg
  go_enter Try.func5, Try.ntmps5
  go_wp2_with (at_builtin; refine wpList_appE rfl (.tmp 29) (.tmp 30) rfl w.heap.size _ 0 E0 rfl ?o1 _ m E rfl ?x1 ?n1 ?b1 ?_)
  case o1 => exact OwnE.lit0 w _ (Nat.le_refl _)
  case x1 => exact hv'.out.below ((Below.refl _ _).alloc (Nat.le_refl _) _)
  case n1 => omega
  case b1 => simp
  intro v1 w1 o1 hb1
  have o1 : OwnE w1 w.heap.size v1 m E := OwnE.first (F := E0) (by rw [Nat.zero_add]; exact o1)
  have hb1' : Below w.heap.size w w1 := ((Below.refl _ _).alloc (Nat.le_refl _) _).trans hb1
  clear hb1
  go_wp2_with (at_builtin; refine wpList_appE rfl (.tmp 31) (.tmp 32) rfl w.heap.size _ m E rfl o1 _ k F rfl ?x2 ?n2 ?b2 ?_)
  case x2 => exact hu'.out.below hb1'
  case n2 => omega
  case b2 => exact hb1'.size
  intro v2 w2 o2 hb2
  have e2 := o2.at_ (by omega) (cat_r64 hv'.out hu'.out)
  have hb2' := hb1'.trans hb2
  clear hb2 o1 hb1' o2
  obtain ⟨A3, c3, rfl, hm3, _⟩ := e2
  go_wp2_with fail
  refine (Great_any n A3 (m + k) c3 _ hm3).mono ?_
  rintro e w3 ⟨rfl, rfl⟩
  rw [hg'.out]
  -- all
  go_wp2_with (at_builtin; refine wpList_appE rfl (.tmp 37) (.tmp 38) rfl w.heap.size _ 0 E0 rfl ?o3 _ m E rfl ?x3 ?n3 ?b3 ?_)
  case o3 => exact OwnE.lit0 w2 _ hb2'.size
  case x3 => exact hv'.out.below (hb2'.alloc hb2'.size _)
  case n3 => omega
  case b3 => simp; have := hb2'.size; omega
  intro v3 w3 o3 hb3
  have o3 : OwnE w3 w.heap.size v3 m E := OwnE.first (F := E0) (by rw [Nat.zero_add]; exact o3)
  have hb3' : Below w.heap.size w w3 := (hb2'.alloc hb2'.size _).trans hb3
  clear hb3 hb2'
  go_wp2_with (at_builtin; refine wpList_appE rfl (.tmp 39) (.tmp 40) rfl w.heap.size _ m E rfl o3 _ k F rfl ?x4 ?n4 ?b4 ?_)
  case x4 => exact hu'.out.below hb3'
  case n4 => omega
  case b4 => exact hb3'.size
  intro v4 w4 o4 hb4
  have e4 := o4.at_ (by omega) (cat_r64 hv'.out hu'.out)
  have hb4' := hb3'.trans hb4
  clear hb4 o3 hb3' o4
  -- turned
  go_wp2_with (at_builtin; refine wpList_appE rfl (.tmp 42) (.tmp 43) rfl w4.heap.size _ 0 E0 rfl ?o5 _ k F rfl ?x5 ?n5 ?b5 ?_)
  case o5 => exact OwnE.lit0 w4 _ (Nat.le_refl _)
  case x5 => exact hu'.out.below (hb4'.alloc hb4'.size _)
  case n5 => omega
  case b5 => simp
  intro v5 w5 o5 hb5
  have o5 : OwnE w5 w4.heap.size v5 k F := OwnE.first (F := E0) (by rw [Nat.zero_add]; exact o5)
  have hb5' : Below w4.heap.size w4 w5 := ((Below.refl _ _).alloc (Nat.le_refl _) _).trans hb5
  clear hb5
  go_wp2_with (at_builtin; refine wpList_appE rfl (.tmp 44) (.tmp 45) rfl w4.heap.size _ k F rfl o5 _ m E rfl ?x6 ?n6 ?b6 ?_)
  case x6 => exact hv'.out.below (hb4'.trans (hb5'.mono hb4'.size))
  case n6 => omega
  case b6 => exact hb5'.size
  intro v6 w6 o6 hb6
  have e6 := o6.at_ (by omega) (cat_r64 hu'.out hv'.out)
  have hb6' := hb5'.trans hb6
  have e4' := e4.below hb6'
  have hbw : Below w.heap.size w w6 := hb4'.trans (hb6'.mono hb4'.size)
  clear hb6 hb6' hb5' hb4' o5 o6 e4
  -- the three
  go_wp2_with fail
  refine (Pots_any n _ m E w6 (hv'.out.below hbw) (by omega) hn0 hn1).mono ?_
  rintro e w7 ⟨p, rfl, hp, hb7⟩
  have hbw7 := hbw.trans (hb7.mono hbw.size)
  have e4 := e4'.below hb7
  have e6 := e6.below hb7
  clear e4' hbw hb7
  go_wp2_with fail
  refine (Pots_any n _ (m + k) (cat m E F) w7 e4 (by omega) hn0 hn1).mono ?_
  rintro e w8 ⟨q, rfl, hq, hb8⟩
  have hbw8 := hbw7.trans (hb8.mono hbw7.size)
  have hp := hp.below hb8
  have e6 := e6.below hb8
  clear hbw7 hb8 e4
  go_wp2_with fail
  refine (Pots_any n _ (k + m) (cat k F E) w8 e6 (by omega) hn0 hn1).mono ?_
  rintro e w9 ⟨r, rfl, hr, hb9⟩
  have hbw9 := hbw8.trans (hb9.mono hbw8.size)
  have hp := hp.below hb9
  have hq := hq.below hb9
  clear hbw8 hb9 e6
  rw [← cat_turn]
  by_cases hck : checkR n (m + k) (cat m E F) = 0
  · obtain ⟨l1, l2, l3, l4, l5, l6, l7⟩ := more_law hck
    rw [hck, l1]
    rw [l4] at hr
    have hr' : IntsAt w9 r (lenR n (m + k) (cat m E F)) (potR n (m + k) (cat m E F)) := hr.congr l6
    rw [l3]
    have l7' := Lib.hid l7
    have hr'' := Lib.hid hr'
    have hq' := Lib.hid hq
    clear l7 l6 l4 l3 l1 hck hr hr'
    obtain ⟨A7, c7, rfl, hl7, hr7, hc7⟩ := hp
    obtain ⟨A8, c8, rfl, hl8, hr8, hc8⟩ := hq
    have hc7' := Lib.hid hc7
    have hc8' := Lib.hid hc8
    clear hc7 hc8 hr7 hr8
    generalize hN : lenR n m E = N at *
    generalize hN2 : lenR n (m + k) (cat m E F) = N2 at *
    have dl : decide (N < N2) = false := by simp; omega
    have dl2 : decide ((N : Int) < (N2 : Int)) = false := by simp; omega
    clear hN hN2
    have main : ∀ bb : Bool, badR n (m + k) (cat m E F) = bb → True := fun _ _ => trivial
    clear main
    generalize hB : badR n (m + k) (cat m E F) = B at *
    generalize hB1 : badR n m E = B1 at *
    clear hB hB1
    cases B <;> cases B1
    all_goals first | (exfalso; simp at l2; done) | skip
    all_goals
      clear l2
      go_wp2_with fail
      refine (same_eq _ _ N2 (potR n (m + k) (cat m E F)) _ hq'.out hr''.out).mono ?_
      rintro e w10 ⟨rfl, d, rfl⟩
      have hb10 := below_drewN hbw9 d
      go_wp2
      go_loopw [18] (fun i wr => ∃ i' : Nat, i' ≤ N2 ∧ i = .int .i64 i' ∧ ∃ d, wr = w9.drewN d) (fun i _ => N2 - (intOf i).toNat)
      case atStart => exact ⟨0, Nat.zero_le _, rfl, d, rfl⟩
      case round =>
        obtain ⟨i, hi, rfl, d', rfl⟩ := hrel
        by_cases hlt : i < N2
        · obtain ⟨b7, o7, rfl, hbl7, hcs7⟩ := hc7'.out (by omega)
          obtain ⟨b8, o8, rfl, hbl8, hcs8⟩ := hc8'.out (by omega)
          have q0 := hcs7 i (by omega)
          have q1 := hcs8 i hlt
          have hl := l7'.out i hlt
          clear hcs7 hcs8
          generalize potR n m E i = x at *
          generalize potR n (m + k) (cat m E F) i = y at *
          have hd : decide (x < y) = false := by simp; omega
          go_wp2
          go_quiet (fail)
          go_wp2
          go_roundw
          case rel => exact ⟨i + 1, by omega, by go_num, _, rfl⟩
          case measure => simp [intOf]; omega
        · have hb4 := below_drewN hbw9 d'
          go_wp2_with fail
          refine (wakes24_any _).mono ?_
          rintro e w11 ⟨rfl, hb5⟩
          go_wp2
          go_ret
          exact ⟨rfl, hb4.trans (hb5.mono hb4.size)⟩
  · have hck' : (checkR n (m + k) (cat m E F) != 0) = true := by simpa using hck
    clear hck
    go_wp2_with fail
    refine (wakes24_any _).mono ?_
    rintro e w11 ⟨rfl, hb5⟩
    go_wp2
    go_ret
    exact ⟨rfl, hbw9.trans (hb5.mono hbw9.size)⟩
end Go.Proofs.Ytoifcpdkophobaa
