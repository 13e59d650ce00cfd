/- graph.Holds. -/
import Derived.Test.YtoifcpdkophobaaHoldsE
namespace Go.Proofs.Ytoifcpdkophobaa
open Go.RowKit

theorem u64_at {x : Int} {k : Nat} (hk : k ≤ 1000000) (r0 : -9223372036854775808 ≤ x) (r1 : x ≤ 9223372036854775807) (h : 0 ≤ x ∧ x < k) : decide ((k : Int) ≤ IntKind.u64.wrap x) = false := by
  rw [wrap_u64]; simp; omega
theorem u64_out {x : Int} {k : Nat} (hk : k ≤ 1000000) (r0 : -9223372036854775808 ≤ x) (r1 : x ≤ 9223372036854775807) (h : ¬ (0 ≤ x ∧ x < k)) : decide ((k : Int) ≤ IntKind.u64.wrap x) = true := by
  rw [wrap_u64]; simp; omega

set_option maxHeartbeats 1000000 in
theorem Holds_any (v u : Value) (m k : Nat) (E : Nat → Ed) (f : Nat → Int) (w : World) (hv : EdsAt w v m E) (hu : IntsAt w u k f) (hkm : k ≤ 1000000) :
    Calls Try.prog 20 #[v, u] w fun e w' => e = .returned (.bool (holdsB k f m E)) ∧ Below w.heap.size w w' := by
  have hu' := Lib.hid hu
  obtain ⟨A, c, rfl, hm, hr, hc⟩ := hv
  obtain ⟨A2, c2, rfl, hk, hr2, hc2⟩ := hu
  have hc' := Lib.hid hc
  have hr' := Lib.hid hr
  have hc2' := Lib.hid hc2
  have hr2' := Lib.hid hr2
  clear hc hr hc2 hr2
  go_enter Try.func20, Try.ntmps20
  go_wp2_with fail
  refine (ContainsFunc_any _ k f _ hu'.out).mono ?_
  rintro e w1 ⟨rfl, rfl⟩
  cases hnb : numsB f k with
  | false =>
    have hR : Hid (holdsB k f m E = false) := by unfold holdsB Hid; rw [hnb]; rfl
    clear hnb
    go_wp2
    go_ret
    exact ⟨ret_bool hR.out.symm, Below.refl _ _⟩
  | true =>
    have hnums := Lib.hid hnb
    clear hnb
    have e0 : IntKind.u64.wrap (k : Int) = k := by rw [wrap_u64]; omega
    go_wp2
    go_loopw [15] (fun i wr => ∃ j : Nat, j ≤ m ∧ i = .int .i64 j ∧ Hid (hedsB k f E j = true) ∧ Below w.heap.size w wr) (fun i _ => m - (intOf i).toNat)
    case atStart => exact ⟨0, Nat.zero_le _, rfl, rfl, Below.refl _ _⟩
    case round =>
      obtain ⟨i, hi, rfl, hs, hb⟩ := hrel
      have hz := hb.size
      by_cases hlt : i < m
      · obtain ⟨b, o, rfl, hbl, hcs⟩ := hc'.out (by omega)
        obtain ⟨q0, q1, q2⟩ := hcs i hlt
        obtain ⟨⟨r0, r1⟩, ⟨r2, r3⟩, r4⟩ := hr'.out i hlt
        clear hcs
        have r4' := Lib.hid r4
        clear r4
        have c0 := (hb.cell (p := ⟨b, o + i * 3, none⟩) hbl).trans q0
        have c1 := (hb.cell (p := ⟨b, o + i * 3 + 1, none⟩) hbl).trans q1
        have c2 := (hb.cell (p := ⟨b, o + i * 3 + 2, none⟩) hbl).trans q2
        clear q0 q1 q2
        by_cases t0 : 0 ≤ (E i).src ∧ (E i).src < k
        · by_cases t1 : 0 ≤ (E i).dst ∧ (E i).dst < k
          · have d0 := u64_at hkm r0 r1 t0
            have d1 := u64_at hkm r2 r3 t1
            obtain ⟨x, hx⟩ := Int.eq_ofNat_of_zero_le t0.1
            obtain ⟨y, hy⟩ := Int.eq_ofNat_of_zero_le t1.1
            have hB := Lib.hid (hedB_in (f := f) hx hy (show x < k by omega) (show y < k by omega))
            rw [hx] at c0 d0
            rw [hy] at c1 d1
            have hxk : x < k := by omega
            have hyk : y < k := by omega
            have ex : IntKind.u64.wrap (x : Int) = x := by rw [wrap_u64]; omega
            have ey : IntKind.u64.wrap (y : Int) = y := by rw [wrap_u64]; omega
            rw [ex] at d0
            rw [ey] at d1
            have d0' : decide (k ≤ x) = false := by simp; omega
            have d1' : decide (k ≤ y) = false := by simp; omega
            clear hx hy r0 r1 r2 r3 t0 t1
            obtain ⟨b2, o2, rfl, hbl2, hcs2⟩ := hc2'.out (by omega)
            have p0 := (hb.cell (p := ⟨b2, o2 + x, none⟩) hbl2).trans (hcs2 x (by omega))
            have p1 := (hb.cell (p := ⟨b2, o2 + y, none⟩) hbl2).trans (hcs2 y (by omega))
            have hbw2 : b2 < wr.heap.size := by omega
            have hx' := Lib.hid (hr2'.out x (by omega))
            have hy' := Lib.hid (hr2'.out y (by omega))
            clear hcs2
            generalize (E i).wt = z at *
            generalize hfx : f x = fx at *
            generalize hfy : f y = fy at *
            clear hfx hfy
            cases hat : atmB fy fx z with
            | false =>
              have hat' := Lib.hid hat
              have hAt : ∀ W : World, Calls Try.prog 31 #[.int .i64 fy, .int .i64 fx, .int .i64 z] W fun e w' => e = .returned (.bool false) ∧ W = w' := fun W => by
                rw [← hat]; exact AtMost_any _ _ _ _ hy'.out hx'.out r4'.out
              have hAt' := Lib.hid hAt
              clear hat hAt
              have hR := Lib.hid (holds_ed (m := m) (f := f) hlt (hB.out.trans hat'.out))
              go_wp2
              go_quiet ((go_at_call 31; exact quiet_left (hAt'.out _)))
              go_wp2
              go_ret
              exact ⟨ret_bool hR.out.symm, below_drewN (hb.alloc hz _) _⟩
            | true =>
              have hat' := Lib.hid hat
              have hAt : ∀ W : World, Calls Try.prog 31 #[.int .i64 fy, .int .i64 fx, .int .i64 z] W fun e w' => e = .returned (.bool true) ∧ W = w' := fun W => by
                rw [← hat]; exact AtMost_any _ _ _ _ hy'.out hx'.out r4'.out
              have hAt' := Lib.hid hAt
              clear hat hAt
              go_wp2
              go_quiet ((go_at_call 31; exact quiet_left (hAt'.out _)))
              go_wp2
              go_roundw
              case rel => exact ⟨i + 1, by omega, by go_num, by show hedsB k f E (i + 1) = true; rw [hedsB, hs.out, hB.out, hat'.out]; rfl, below_drewN (hb.alloc hz _) _⟩
              case measure => simp [intOf]; omega
          · have d0 := u64_at hkm r0 r1 t0
            have d1 := u64_out hkm r2 r3 t1
            have hR := Lib.hid (holds_ed (m := m) (f := f) hlt (hedB_out (k := k) (e := E i) (by omega)))
            clear t0 t1
            go_wp2
            go_quiet (fail)
            go_wp2
            go_ret
            exact ⟨ret_bool hR.out.symm, below_drewN (hb.alloc hz _) _⟩
        · have d0 := u64_out hkm r0 r1 t0
          have hR := Lib.hid (holds_ed (m := m) (f := f) hlt (hedB_out (k := k) (e := E i) (by omega)))
          clear t0
          go_wp2
          go_quiet (fail)
          go_wp2
          go_ret
          exact ⟨ret_bool hR.out.symm, below_drewN (hb.alloc hz _) _⟩
      · go_wp2
        go_ret
        exact ⟨ret_bool (holds_done hnums.out hs.out (by omega)).symm, hb⟩
end Go.Proofs.Ytoifcpdkophobaa
