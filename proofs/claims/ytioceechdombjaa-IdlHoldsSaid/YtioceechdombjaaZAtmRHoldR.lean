/- gantryref10.fits, gantryref10.AtMost. -/
import Derived.Test.YtioceechdombjaaZIntsToNumW
import Derived.Laws.BitsAllLaws
import Derived.Laws.BitsLemmas
import Derived.Test.YtioceechdombjaaZWordsGraphAGraphD
namespace Go.Proofs.Ytioceechdombjaa
open Go.RowKit

def atmB (a b n : Int) : Bool := decide ((-4611686018427387904 ≤ a ∧ a ≤ 4611686018427387904) ∧ (-4611686018427387904 ≤ b ∧ b ≤ 4611686018427387904) ∧ (-4611686018427387904 ≤ n ∧ n ≤ 4611686018427387904) ∧ a - b ≤ n)

theorem fits10_any (n : Int) (w : World) (h0 : -9223372036854775808 ≤ n) (h1 : n ≤ 9223372036854775807) :
    Calls Try.prog 48 #[.int .i64 n] w fun e w' => e = .returned (.bool (mayB n)) ∧ w = w' := by
  go_enter Try.func48, Try.ntmps48
  go_wp2
  all_goals (go_ret; exact ⟨ret_bool (by unfold mayB; rw [Bool.eq_iff_iff]; simp; omega), rfl⟩)

theorem i64_and_one (a : Int) : bits BinOp.and IntKind.i64 a 1 = a % 2 := by
  show IntKind.i64.wrap ((BitVec.ofInt 64 a &&& BitVec.ofInt 64 1).toNat : Int) = _
  rw [BitVec.toNat_and, show (BitVec.ofInt 64 1).toNat = 1 from rfl, Nat.and_one_is_mod, BitVec.toNat_ofInt, IntKind.wrap_i64]
  omega

set_option maxHeartbeats 400000 in
theorem RAtMost_any (a b n : Int) (w : World) (ha : R64 a) (hb : R64 b) (hn : R64 n) :
    Calls Try.prog 35 #[.int .i64 a, .int .i64 b, .int .i64 n] w fun e w' => e = .returned (.bool (atmB a b n)) ∧ w = w' := by
  obtain ⟨a0, a1⟩ := ha
  obtain ⟨b0, b1⟩ := hb
  obtain ⟨n0, n1⟩ := hn
  have ea := i64_and_one a
  have eb := i64_and_one b
  have en := i64_and_one n
  by_cases ga : -4611686018427387904 ≤ a ∧ a ≤ 4611686018427387904
  · by_cases gb : -4611686018427387904 ≤ b ∧ b ≤ 4611686018427387904
    · by_cases gn : -4611686018427387904 ≤ n ∧ n ≤ 4611686018427387904
      · obtain ⟨ga0, ga1⟩ := ga
        obtain ⟨gb0, gb1⟩ := gb
        obtain ⟨gn0, gn1⟩ := gn
        go_enter Try.func35, Try.ntmps35
        go_wp2_with fail
        refine (fits10_any a w a0 a1).mono ?_
        rintro e w1 ⟨rfl, rfl⟩
        rw [mayB_true ga0 ga1]
        go_wp2_with fail
        refine (fits10_any b w b0 b1).mono ?_
        rintro e w1 ⟨rfl, rfl⟩
        rw [mayB_true gb0 gb1]
        go_wp2_with fail
        refine (fits10_any n w n0 n1).mono ?_
        rintro e w1 ⟨rfl, rfl⟩
        rw [mayB_true gn0 gn1]
        go_wp2
        all_goals (go_ret; exact ⟨ret_bool (by unfold atmB; rw [Bool.eq_iff_iff]; simp; omega), rfl⟩)
      · have hr : Hid (atmB a b n = false) := by unfold atmB Hid; simp; omega
        obtain ⟨ga0, ga1⟩ := ga
        obtain ⟨gb0, gb1⟩ := gb
        go_enter Try.func35, Try.ntmps35
        go_wp2_with fail
        refine (fits10_any a w a0 a1).mono ?_
        rintro e w1 ⟨rfl, rfl⟩
        rw [mayB_true ga0 ga1]
        go_wp2_with fail
        refine (fits10_any b w b0 b1).mono ?_
        rintro e w1 ⟨rfl, rfl⟩
        rw [mayB_true gb0 gb1]
        go_wp2_with fail
        refine (fits10_any n w n0 n1).mono ?_
        rintro e w1 ⟨rfl, rfl⟩
        rw [mayB_false (by omega)]
        go_wp2
        go_ret
        exact ⟨ret_bool hr.out.symm, rfl⟩
    · have hr : Hid (atmB a b n = false) := by unfold atmB Hid; simp; omega
      obtain ⟨ga0, ga1⟩ := ga
      go_enter Try.func35, Try.ntmps35
      go_wp2_with fail
      refine (fits10_any a w a0 a1).mono ?_
      rintro e w1 ⟨rfl, rfl⟩
      rw [mayB_true ga0 ga1]
      go_wp2_with fail
      refine (fits10_any b w b0 b1).mono ?_
      rintro e w1 ⟨rfl, rfl⟩
      rw [mayB_false (by omega)]
      go_wp2
      go_ret
      exact ⟨ret_bool hr.out.symm, rfl⟩
  · have hr : Hid (atmB a b n = false) := by unfold atmB Hid; simp; omega
    go_enter Try.func35, Try.ntmps35
    go_wp2_with fail
    refine (fits10_any a w a0 a1).mono ?_
    rintro e w1 ⟨rfl, rfl⟩
    rw [mayB_false (by omega)]
    go_wp2
    go_ret
    exact ⟨ret_bool hr.out.symm, rfl⟩
end Go.Proofs.Ytioceechdombjaa

namespace Go.Proofs.Ytioceechdombjaa
open Go.RowKit

def numsB (f : Nat → Int) : Nat → Bool
  | 0 => true
  | k + 1 => numsB f k && mayB (f k)
def hedB (k : Nat) (f : Nat → Int) (e : Ed) : Bool := decide (0 ≤ e.src ∧ e.src < k ∧ 0 ≤ e.dst ∧ e.dst < k) && atmB (f e.dst.toNat) (f e.src.toNat) e.wt
def hedsB (k : Nat) (f : Nat → Int) (E : Nat → Ed) : Nat → Bool
  | 0 => true
  | m + 1 => hedsB k f E m && hedB k f (E m)
def holdsB (k : Nat) (f : Nat → Int) (m : Nat) (E : Nat → Ed) : Bool := numsB f k && hedsB k f E m
theorem numsB_iff (f : Nat → Int) (k : Nat) : numsB f k = true ↔ ∀ i, i < k → mayB (f i) = true := by
  induction k with
  | zero => simp [numsB]
  | succ k ih =>
    rw [numsB, Bool.and_eq_true, ih]
    constructor
    · rintro ⟨h1, h2⟩ i hi
      by_cases e : i = k
      · subst e; exact h2
      · exact h1 i (by omega)
    · exact fun h => ⟨fun i hi => h i (by omega), h k (by omega)⟩
theorem hedsB_iff (k : Nat) (f : Nat → Int) (E : Nat → Ed) (m : Nat) : hedsB k f E m = true ↔ ∀ i, i < m → hedB k f (E i) = true := by
  induction m with
  | zero => simp [hedsB]
  | succ m ih =>
    rw [hedsB, Bool.and_eq_true, ih]
    constructor
    · rintro ⟨h1, h2⟩ i hi
      by_cases e : i = m
      · subst e; exact h2
      · exact h1 i (by omega)
    · exact fun h => ⟨fun i hi => h i (by omega), h m (by omega)⟩
theorem holds_num {k m i : Nat} {f : Nat → Int} {E : Nat → Ed} (hi : i < k) (h : mayB (f i) = false) : holdsB k f m E = false := by
  unfold holdsB
  cases hn : numsB f k with
  | false => rfl
  | true => rw [(numsB_iff f k).1 hn i hi] at h; cases h
theorem holds_ed {k m i : Nat} {f : Nat → Int} {E : Nat → Ed} (hi : i < m) (h : hedB k f (E i) = false) : holdsB k f m E = false := by
  unfold holdsB
  cases hn : hedsB k f E m with
  | false => simp
  | true => rw [(hedsB_iff k f E m).1 hn i hi] at h; cases h
theorem holds_done {k m i : Nat} {f : Nat → Int} {E : Nat → Ed} (h1 : numsB f k = true) (h2 : hedsB k f E i = true) (hi : i = m) : holdsB k f m E = true := by
  subst hi; unfold holdsB; rw [h1, h2]; rfl
theorem hedB_out {k : Nat} {f : Nat → Int} {e : Ed} (h : e.src < 0 ∨ k ≤ e.src ∨ e.dst < 0 ∨ k ≤ e.dst) : hedB k f e = false := by
  unfold hedB
  rw [show decide (0 ≤ e.src ∧ e.src < k ∧ 0 ≤ e.dst ∧ e.dst < k) = false by simp; omega]; rfl
theorem hedB_in {k x y : Nat} {f : Nat → Int} {e : Ed} (h0 : e.src = x) (h1 : e.dst = y) (hx : x < k) (hy : y < k) : hedB k f e = atmB (f y) (f x) e.wt := by
  unfold hedB
  rw [h0, h1, show decide (0 ≤ (x : Int) ∧ (x : Int) < k ∧ 0 ≤ (y : Int) ∧ (y : Int) < k) = true by simp; omega]; simp

theorem quiet_left {P : Program} {f : FuncId} {args : Array Value} {w : World} {n : Nat} {v : Value}
    (h : Calls P f args (w.drewN n) fun e w' => e = .returned v ∧ w.drewN n = w') : Calls P f args (w.drewN n) fun e w'' => e = .returned v ∧ ∃ m, w'' = w.drewN m :=
  h.mono fun _ _ ⟨he, hm⟩ => ⟨he, n, hm.symm⟩

set_option maxHeartbeats 1000000 in
theorem RHolds_any (v u : Value) (m k : Nat) (E : Nat → Ed) (f : Nat → Int) (w : World) (hv : EdsAt w v m E) (hu : IntsAt w u k f) :
    Calls Try.prog 15 #[v, u] w fun e w' => e = .returned (.bool (holdsB k f m E)) ∧ Below w.heap.size w w' := by
  obtain ⟨A, c, rfl, hm, hr, hc⟩ := hv
  obtain ⟨A2, c2, rfl, hk, hr2, hc2⟩ := hu
  have hc' := Lib.hid hc
  have hr' := Lib.hid hr
  have hc2' := Lib.hid hc2
  have hr2' := Lib.hid hr2
  clear hc hr hc2 hr2
  go_enter Try.func15, Try.ntmps15
  go_wp2
  go_loop [5] (fun i => ∃ j : Nat, j ≤ k ∧ i = .int .i64 j ∧ Hid (numsB f j = true)) (fun i => k - (intOf i).toNat)
  case atStart => exact ⟨0, Nat.zero_le _, rfl, rfl⟩
  case round =>
    obtain ⟨j, hj, rfl, hs⟩ := hrel
    by_cases hlt : j < k
    · obtain ⟨b2, o2, rfl, hbl2, hcs2⟩ := hc2'.out (by omega)
      have q0 := hcs2 j hlt
      obtain ⟨r0, r1⟩ := hr2'.out j hlt
      clear hcs2
      cases hmy : mayB (f j) with
      | false =>
        have hmy' := Lib.hid hmy
        clear hmy
        go_wp2_with (go_at_call 34; refine (RMay_any _ _ r0 r1).mono ?_; rintro e w' ⟨rfl, rfl⟩; rw [hmy'.out])
        go_ret
        exact ⟨ret_bool (holds_num hlt hmy'.out).symm, Below.refl _ _⟩
      | true =>
        have hmy' := Lib.hid hmy
        clear hmy
        go_wp2_with (go_at_call 34; refine (RMay_any _ _ r0 r1).mono ?_; rintro e w' ⟨rfl, rfl⟩; rw [hmy'.out])
        go_round
        case rel => exact ⟨j + 1, by omega, by go_num, by show numsB f (j + 1) = true; rw [numsB, hs.out, hmy'.out]; rfl⟩
        case measure => simp [intOf]; omega
    · have hnums : Hid (numsB f k = true) := by have := hs.out; rw [show j = k by omega] at this; exact this
      clear hs
      go_wp2
      go_loopw [6] (fun i wr => ∃ j : Nat, j ≤ m ∧ i = .int .i64 j ∧ Hid (hedsB k f E j = true) ∧ Below w.heap.size w wr) (fun i _ => m - (intOf i).toNat)
      case atStart => exact ⟨0, Nat.zero_le _, rfl, rfl, Below.refl _ _⟩
      case round =>
        obtain ⟨i, hi, rfl, hs, hb⟩ := hrel
        have hz := hb.size
        by_cases hlt : i < m
        · obtain ⟨b, o, rfl, hbl, hcs⟩ := hc'.out (by omega)
          obtain ⟨q0, q1, q2⟩ := hcs i hlt
          obtain ⟨⟨r0, r1⟩, ⟨r2, r3⟩, r4⟩ := hr'.out i hlt
          clear hcs
          have r4' := Lib.hid r4
          clear r4
          have c0 := (hb.cell (p := ⟨b, o + i * 3, none⟩) hbl).trans q0
          have c1 := (hb.cell (p := ⟨b, o + i * 3 + 1, none⟩) hbl).trans q1
          have c2 := (hb.cell (p := ⟨b, o + i * 3 + 2, none⟩) hbl).trans q2
          clear q0 q1 q2
          by_cases t0 : (E i).src < 0
          · have d0 : decide ((E i).src < 0) = true := by simpa using t0
            have hR := Lib.hid (holds_ed (m := m) (f := f) hlt (hedB_out (k := k) (.inl t0)))
            go_wp2
            go_quiet (fail)
            go_wp2
            go_ret
            exact ⟨ret_bool hR.out.symm, below_drewN (hb.alloc hz _) _⟩
          · have d0 : decide ((E i).src < 0) = false := by simpa using t0
            have t0' : 0 ≤ (E i).src := by omega
            clear t0
            by_cases t1 : (k : Int) ≤ (E i).src
            · have d1 : decide ((k : Int) ≤ (E i).src) = true := by simpa using t1
              have hR := Lib.hid (holds_ed (m := m) (f := f) hlt (hedB_out (k := k) (.inr (.inl t1))))
              go_wp2
              go_quiet (fail)
              go_wp2
              go_ret
              exact ⟨ret_bool hR.out.symm, below_drewN (hb.alloc hz _) _⟩
            · have d1 : decide ((k : Int) ≤ (E i).src) = false := by simpa using t1
              have t1' : (E i).src < k := by omega
              clear t1
              by_cases t2 : (E i).dst < 0
              · have d2 : decide ((E i).dst < 0) = true := by simpa using t2
                have hR := Lib.hid (holds_ed (m := m) (f := f) hlt (hedB_out (k := k) (.inr (.inr (.inl t2)))))
                go_wp2
                go_quiet (fail)
                go_wp2
                go_ret
                exact ⟨ret_bool hR.out.symm, below_drewN (hb.alloc hz _) _⟩
              · have d2 : decide ((E i).dst < 0) = false := by simpa using t2
                have t2' : 0 ≤ (E i).dst := by omega
                clear t2
                by_cases t3 : (k : Int) ≤ (E i).dst
                · have d3 : decide ((k : Int) ≤ (E i).dst) = true := by simpa using t3
                  have hR := Lib.hid (holds_ed (m := m) (f := f) hlt (hedB_out (k := k) (.inr (.inr (.inr t3)))))
                  go_wp2
                  go_quiet (fail)
                  go_wp2
                  go_ret
                  exact ⟨ret_bool hR.out.symm, below_drewN (hb.alloc hz _) _⟩
                · have d3 : decide ((k : Int) ≤ (E i).dst) = false := by simpa using t3
                  have t3' : (E i).dst < k := by omega
                  clear t3
                  obtain ⟨x, hx⟩ := Int.eq_ofNat_of_zero_le t0'
                  obtain ⟨y, hy⟩ := Int.eq_ofNat_of_zero_le t2'
                  have hB := Lib.hid (hedB_in (f := f) hx hy (show x < k by omega) (show y < k by omega))
                  rw [hx] at c0 d0 t0' t1'
                  rw [hy] at c1 d2 t2' t3'
                  have d1' : decide (k ≤ x) = false := by simp; omega
                  have d3' : decide (k ≤ y) = false := by simp; omega
                  clear hx hy r0 r1 r2 r3 d1 d3
                  obtain ⟨b2, o2, rfl, hbl2, hcs2⟩ := hc2'.out (by omega)
                  have p0 := (hb.cell (p := ⟨b2, o2 + x, none⟩) hbl2).trans (hcs2 x (by omega))
                  have p1 := (hb.cell (p := ⟨b2, o2 + y, none⟩) hbl2).trans (hcs2 y (by omega))
                  have hbw2 : b2 < wr.heap.size := by omega
                  have hx' := Lib.hid (hr2'.out x (by omega))
                  have hy' := Lib.hid (hr2'.out y (by omega))
                  clear hcs2
                  generalize (E i).wt = z at *
                  generalize hfx : f x = fx at *
                  generalize hfy : f y = fy at *
                  clear hfx hfy
                  cases hat : atmB fy fx z with
                  | false =>
                    have hat' := Lib.hid hat
                    have hAt : ∀ W : World, Calls Try.prog 35 #[.int .i64 fy, .int .i64 fx, .int .i64 z] W fun e w' => e = .returned (.bool false) ∧ W = w' := fun W => by
                      rw [← hat]; exact RAtMost_any _ _ _ _ hy'.out hx'.out r4'.out
                    have hAt' := Lib.hid hAt
                    clear hat hAt
                    have hR := Lib.hid (holds_ed (m := m) (f := f) hlt (hB.out.trans hat'.out))
                    go_wp2
                    go_quiet ((go_at_call 35; exact quiet_left (hAt'.out _)))
                    go_wp2
                    go_ret
                    exact ⟨ret_bool hR.out.symm, below_drewN (hb.alloc hz _) _⟩
                  | true =>
                    have hat' := Lib.hid hat
                    have hAt : ∀ W : World, Calls Try.prog 35 #[.int .i64 fy, .int .i64 fx, .int .i64 z] W fun e w' => e = .returned (.bool true) ∧ W = w' := fun W => by
                      rw [← hat]; exact RAtMost_any _ _ _ _ hy'.out hx'.out r4'.out
                    have hAt' := Lib.hid hAt
                    clear hat hAt
                    go_wp2
                    go_quiet ((go_at_call 35; exact quiet_left (hAt'.out _)))
                    go_wp2
                    go_roundw
                    case rel => exact ⟨i + 1, by omega, by go_num, by show hedsB k f E (i + 1) = true; rw [hedsB, hs.out, hB.out, hat'.out]; rfl, below_drewN (hb.alloc hz _) _⟩
                    case measure => simp [intOf]; omega
        · go_wp2
          go_ret
          exact ⟨ret_bool (holds_done hnums.out hs.out (by omega)).symm, hb⟩
end Go.Proofs.Ytioceechdombjaa
