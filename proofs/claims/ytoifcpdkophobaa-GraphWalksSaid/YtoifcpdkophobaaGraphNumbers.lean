/- The law GraphNumbers: the walk. -/
import Derived.Test.YtoifcpdkophobaaGraphI
import Derived.Test.YtoifcpdkophobaaBellC
namespace Go.Proofs.Ytoifcpdkophobaa
open Go.RowKit

theorem sumTo_eq {f : Nat → Int} {M : Int} (n : Nat) : ∀ {s : Int}, sumTo f M n = some s → s = sumN (fun i => absI (f i) + 1) n := by
  induction n with
  | zero => intro s h; injection h with h; rw [← h]; rfl
  | succ n ih =>
    intro s h
    cases hs : sumTo f M n with
    | none => rw [sumTo_none hs (by omega)] at h; cases h
    | some t =>
      rw [sumTo_succ hs] at h
      by_cases hc : (f n ≤ 4611686018427387904 ∧ -4611686018427387904 ≤ f n) ∧ (f n < M - t ∧ - f n < M - t)
      · rw [if_pos hc] at h
        injection h with h
        show s = sumN (fun i => absI (f i) + 1) n + (absI (f n) + 1)
        rw [← ih hs, ← h]; unfold absI; omega
      · rw [if_neg hc] at h; cases h
theorem sumN_le {f g : Nat → Int} {m : Nat} (h : ∀ i, f i ≤ g i) : sumN f m ≤ sumN g m := by
  induction m with
  | zero => exact Int.le_refl _
  | succ m ih => have := h m; show sumN f m + f m ≤ sumN g m + g m; omega
theorem check_sumN {n : Int} {m : Nat} {E : Nat → Ed} (h : checkR n m E = 0) : sumN (fun i => absI (E i).wt) m ≤ 4611686018427387904 := by
  obtain ⟨_, _, _, hs⟩ := check_ok h
  cases hc : sumTo (fun i => (E i).wt) 4611686018427387904 m with
  | none => exact absurd hc hs
  | some s =>
    have h1 := sumTo_eq m hc
    have h2 := sumTo_bd (by omega) hc
    have h3 := sumN_le (f := fun i => absI (E i).wt) (g := fun i => absI (E i).wt + 1) (m := m) (fun i => by omega)
    omega

def maxN (f : Nat → Int) : Nat → Int
  | 0 => -4611686018427387904
  | k + 1 => if maxN f k < f k then f k else maxN f k
theorem maxN_le (f : Nat → Int) (k : Nat) : ∀ i, i < k → f i ≤ maxN f k := by
  induction k with
  | zero => intro i hi; omega
  | succ k ih =>
    intro i hi
    rw [maxN]
    by_cases e : i = k
    · subst e; split <;> omega
    · have := ih i (by omega); split <;> omega
theorem maxN_bd {f : Nat → Int} {k : Nat} (h : ∀ i, i < k → -4611686018427387904 ≤ f i ∧ f i ≤ 4611686018427387904) : -4611686018427387904 ≤ maxN f k ∧ maxN f k ≤ 4611686018427387904 := by
  induction k with
  | zero => exact ⟨Int.le_refl _, by show (-4611686018427387904 : Int) ≤ _; omega⟩
  | succ k ih =>
    rw [maxN]
    have h1 := ih fun i hi => h i (by omega)
    have h2 := h k (by omega)
    split <;> omega

theorem holds_facts {k m : Nat} {f : Nat → Int} {E : Nat → Ed} (h : holdsB k f m E = true) : (∀ i, i < k → -4611686018427387904 ≤ f i ∧ f i ≤ 4611686018427387904) ∧
    ∀ i, i < m → 0 ≤ (E i).src ∧ (E i).src < k ∧ 0 ≤ (E i).dst ∧ (E i).dst < k ∧ f (E i).dst.toNat - f (E i).src.toNat ≤ (E i).wt := by
  unfold holdsB at h
  rw [Bool.and_eq_true] at h
  refine ⟨fun i hi => ?_, fun i hi => ?_⟩
  · have := (numsB_iff f k).1 h.1 i hi; unfold mayB at this; simpa using this
  · have := (hedsB_iff k f E m).1 h.2 i hi
    unfold hedB atmB at this
    simp at this
    omega

/-- What the law asks, as plain law. -/
theorem numbers_law {k m : Nat} {f : Nat → Int} {E : Nat → Ed} (hc : checkR k m E = 0) (hh : holdsB k f m E = true) :
    badR k m E = false ∧ lenR k m E = k ∧ ∀ i, i < k → f i - maxN f k ≤ potR k m E i := by
  obtain ⟨k0, k1, hE, _⟩ := check_ok hc
  obtain ⟨hf, he⟩ := holds_facts hh
  simp only [Int.toNat_natCast] at hE
  have hx : Feas E m (fun v => if v < k then f v - maxN f k else 0) := by
    intro i hi
    obtain ⟨h0, h1, h2, h3, h4⟩ := he i hi
    dsimp only
    rw [if_pos (by omega), if_pos (by omega)]
    omega
  have hfell := relax_conv hE (check_sumN hc) hx
  have h0 : ∀ v, (if v < k then f v - maxN f k else 0) ≤ 0 := fun v => by
    split
    · have := maxN_le f k v (by omega); omega
    · exact Int.le_refl _
  refine ⟨?_, ?_, fun i hi => ?_⟩
  · unfold badR; simp; omega
  · unfold lenR; rw [if_pos ⟨hc, by simpa using hfell⟩]; simp
  · have := relax_ge (n := k) hx h0 i
    rw [if_pos hi] at this
    unfold potR; simpa using this

set_option maxHeartbeats 800000 in
theorem Numbers_any (v u : Value) (m k : Nat) (E : Nat → Ed) (f : Nat → Int) (w : World) (hv : EdsAt w v m E) (hu : IntsAt w u k f) :
    Calls Try.prog 4 #[v, u] w fun e w' => e = .returned (.bool true) ∧ Below w.heap.size w w' := by
  have hv' := Lib.hid hv
  have hu' := Lib.hid hu
  obtain ⟨A, c, rfl, hm, _⟩ := hv
  obtain ⟨A2, c2, rfl, hk, _, hc2⟩ := hu
  have hc2' := Lib.hid hc2
  clear hc2
  by_cases hg : 60 < (k : Int) ∨ 200 < m
  · have hg' : Hid ((decide (60 < (k : Int)) || decide (200 < m)) = true) := by unfold Hid; simp; omega
    clear hg
    go_enter Try.func4, Try.ntmps4
    go_wp2_with fail
    refine (Great_any k A m c w hm).mono ?_
    rintro e w1 ⟨rfl, rfl⟩
    rw [hg'.out]
    go_wp2_with fail
    refine (wakes24_any w).mono ?_
    rintro e w1 ⟨rfl, hb⟩
    go_wp2
    go_ret
    exact ⟨rfl, hb⟩
  have hg' : Hid ((decide (60 < (k : Int)) || decide (200 < m)) = false) := by unfold Hid; simp; omega
  have hm2 : m ≤ 200 := by omega
  have hk2 : k ≤ 60 := by omega
  clear hg
  by_cases hck : checkR k m E = 0
  · cases hh : holdsB k f m E with
    | false =>
      have hh' := Lib.hid hh
      have hck' := Lib.hid hck
      clear hh hck
      go_enter Try.func4, Try.ntmps4
      go_wp2_with fail
      refine (Great_any k A m c w hm).mono ?_
      rintro e w1 ⟨rfl, rfl⟩
      rw [hg'.out]
      go_wp2_with fail
      refine (RCheck_any k _ m E w hv'.out (by omega) (by omega) (by omega)).mono ?_
      rintro e w1 ⟨rfl, hb1⟩
      rw [hck'.out]
      go_wp2_with fail
      refine (RHolds_any _ _ m k E f w1 (hv'.out.below hb1) (hu'.out.below hb1)).mono ?_
      rintro e w2 ⟨rfl, hb2⟩
      rw [hh'.out]
      have hb12 := hb1.trans (hb2.mono hb1.size)
      go_wp2_with fail
      refine (wakes24_any w2).mono ?_
      rintro e w3 ⟨rfl, hb3⟩
      go_wp2
      go_ret
      exact ⟨rfl, hb12.trans (hb3.mono hb12.size)⟩
    | true =>
      have hh' := Lib.hid hh
      obtain ⟨hfb, _⟩ := holds_facts hh
      obtain ⟨l1, l2, l3⟩ := numbers_law hck hh
      have hck' := Lib.hid hck
      have l1' := Lib.hid l1
      have l2' := Lib.hid l2
      have l3' := Lib.hid l3
      have hfb' := Lib.hid hfb
      clear hh hck l1 l2 l3 hfb
      go_enter Try.func4, Try.ntmps4
      go_wp2_with fail
      refine (Great_any k A m c w hm).mono ?_
      rintro e w1 ⟨rfl, rfl⟩
      rw [hg'.out]
      go_wp2_with fail
      refine (RCheck_any k _ m E w hv'.out (by omega) (by omega) (by omega)).mono ?_
      rintro e w1 ⟨rfl, hb1⟩
      rw [hck'.out]
      go_wp2_with fail
      refine (RHolds_any _ _ m k E f w1 (hv'.out.below hb1) (hu'.out.below hb1)).mono ?_
      rintro e w2 ⟨rfl, hb2⟩
      rw [hh'.out]
      have hb12 := hb1.trans (hb2.mono hb1.size)
      go_wp2_with fail
      refine (Pots_any k _ m E w2 (hv'.out.below hb12) (by omega) (by omega) (by omega)).mono ?_
      rintro e w3 ⟨p, rfl, hp, hb3⟩
      have hb13 := hb12.trans (hb3.mono hb12.size)
      rw [hck'.out, l1'.out]
      rw [l2'.out] at hp
      obtain ⟨A3, c3, rfl, _, hpr, hpc⟩ := hp
      have hpc' := Lib.hid hpc
      have hpr' := Lib.hid hpr
      clear hpc hpr hb1 hb2 hb3 hb12
      go_wp2
      go_loop [9, 10] (fun s i => ∃ j : Nat, j ≤ k ∧ i = .int .i64 j ∧ s = .int .i64 (maxN f j)) (fun _ i => k - (intOf i).toNat)
      case atStart => exact ⟨0, Nat.zero_le _, rfl, rfl⟩
      case round =>
        obtain ⟨j, hj, rfl, rfl⟩ := hrel
        by_cases hlt : j < k
        · obtain ⟨b2, o2, rfl, hbl2, hcs2⟩ := hc2'.out (by omega)
          have q0 := (hb13.cell (p := ⟨b2, o2 + j, none⟩) hbl2).trans (hcs2 j hlt)
          clear hcs2
          by_cases hmx : maxN f j < f j
          · have hs : Hid (maxN f (j + 1) = f j) := by unfold Hid; rw [maxN, if_pos hmx]
            go_wp2
            go_round
            case rel => exact ⟨j + 1, by omega, by go_num, by rw [hs.out]⟩
            case measure => simp [intOf]; omega
          · have hs : Hid (maxN f (j + 1) = maxN f j) := by unfold Hid; rw [maxN, if_neg hmx]
            go_wp2
            go_round
            case rel => exact ⟨j + 1, by omega, by go_num, by rw [hs.out]⟩
            case measure => simp [intOf]; omega
        · have hjk : j = k := by omega
          obtain ⟨m0, m1⟩ := maxN_bd (k := j) (fun i hi => hfb'.out i (by omega))
          have hM : Hid (maxN f j = maxN f k) := by rw [hjk]; rfl
          clear hjk
          generalize maxN f j = M at *
          go_wp2
          go_loopw [11] (fun i wr => ∃ i' : Nat, i' ≤ k ∧ i = .int .i64 i' ∧ ∃ d, wr = w3.drewN d) (fun i _ => k - (intOf i).toNat)
          case atStart => exact ⟨0, Nat.zero_le _, rfl, 0, rfl⟩
          case round =>
            obtain ⟨i, hi, rfl, d, rfl⟩ := hrel
            by_cases hlt : i < k
            · obtain ⟨b2, o2, rfl, hbl2, hcs2⟩ := hc2'.out (by omega)
              obtain ⟨b3, o3, rfl, hbl3, hcs3⟩ := hpc'.out (by omega)
              have q0 := (hb13.cell (p := ⟨b2, o2 + i, none⟩) hbl2).trans (hcs2 i hlt)
              have q1 := hcs3 i hlt
              have hfi := hfb'.out i hlt
              have hl := l3'.out i hlt
              have hle := maxN_le f k i hlt
              rw [← hM.out] at hl hle
              clear hcs2 hcs3
              generalize f i = x at *
              generalize potR k m E i = y at *
              have hwr : IntKind.i64.wrap (x - M) = x - M := IntWalk.i64_in _ (by omega)
              have hd : decide (y < x - M) = false := by simp; omega
              go_wp2
              go_quiet (fail)
              go_wp2
              go_roundw
              case rel => exact ⟨i + 1, by omega, by go_num, _, rfl⟩
              case measure => simp [intOf]; omega
            · have hb4 := below_drewN hb13 d
              go_wp2_with fail
              refine (wakes24_any _).mono ?_
              rintro e w4 ⟨rfl, hb5⟩
              go_wp2
              go_ret
              exact ⟨rfl, hb4.trans (hb5.mono hb4.size)⟩
  · have hck' : (checkR k m E != 0) = true := by simpa using hck
    clear hck
    go_enter Try.func4, Try.ntmps4
    go_wp2_with fail
    refine (Great_any k A m c w hm).mono ?_
    rintro e w1 ⟨rfl, rfl⟩
    rw [hg'.out]
    go_wp2_with fail
    refine (RCheck_any k _ m E w hv'.out (by omega) (by omega) (by omega)).mono ?_
    rintro e w1 ⟨rfl, hb1⟩
    go_wp2_with fail
    refine (wakes24_any w1).mono ?_
    rintro e w3 ⟨rfl, hb3⟩
    go_wp2
    go_ret
    exact ⟨rfl, hb1.trans (hb3.mono hb1.size)⟩
end Go.Proofs.Ytoifcpdkophobaa
