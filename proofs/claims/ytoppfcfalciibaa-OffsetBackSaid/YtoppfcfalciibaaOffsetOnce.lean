/- The laws OffsetOnce, OffsetTurns: the walks. -/
import Derived.Test.YtoppfcfalciibaaOffF
namespace Go.Proofs.Ytoppfcfalciibaa
open Go.RowKit Go.Maps
set_option maxRecDepth 100000

set_option maxHeartbeats 2000000 in
theorem OOnce_any (v : Value) (n : Nat) (N : Nat → Nd) (a b : Int) (w : World) (hv : NdsAt w v n N) (ha : R64 a) (hb : R64 b) :
    Calls Try.prog 8 #[.agg #[v], .int .i64 a, .int .i64 b] w fun x w' => x = .returned (.bool true) ∧ Below w.heap.size w w' := by
  have hv' := Lib.hid hv
  obtain ⟨A, c, rfl, _, _, _⟩ := hv
  have hx0 := (Bx.nil w).one (.slice A n c) 24
  by_cases hbig : 300 < n
  · have hd : Hid (decide (300 < n) = true) := by unfold Hid; simpa using hbig
    go_enter Try.func8, Try.ntmps8
    go_wp2_with fail
    refine (Great5_any _ n N _ (hv'.out.below hx0.bel)).mono ?_
    rintro x w2 ⟨rfl, hb2⟩
    rw [hd.out]
    go_wp2_with fail
    refine (wakes11_any w2).mono ?_
    rintro x w3 ⟨rfl, hb3⟩
    go_wp2
    go_ret
    exact ⟨rfl, ((hx0.step hb2).step hb3).bel⟩
  have hd : Hid (decide (300 < n) = false) := by unfold Hid; simpa using hbig
  have hn : n ≤ 1000000 := by omega
  clear hbig
  cases hor : ordB n N with
  | false =>
    have hor' := Lib.hid hor
    clear hor
    go_enter Try.func8, Try.ntmps8
    go_wp2_with fail
    refine (Great5_any _ n N _ (hv'.out.below hx0.bel)).mono ?_
    rintro x w2 ⟨rfl, hb2⟩
    rw [hd.out]
    have hx2 := hx0.step hb2
    obtain ⟨⟨q0, z0⟩, -⟩ := hx2.cells
    go_wp2_with fail
    refine (ROrdered_any _ n N w2 (hv'.out.below hx2.bel) hn).mono ?_
    rintro x w3 ⟨rfl, hb3⟩
    rw [hor'.out]
    go_wp2_with fail
    refine (wakes11_any w3).mono ?_
    rintro x w4 ⟨rfl, hb4⟩
    go_wp2
    go_ret
    exact ⟨rfl, ((hx2.step hb3).step hb4).bel⟩
  | true =>
    have hO := Lib.hid (ordB_iff.1 hor)
    have hor' := Lib.hid hor
    clear hor
    go_enter Try.func8, Try.ntmps8
    go_wp2_with fail
    refine (Great5_any _ n N _ (hv'.out.below hx0.bel)).mono ?_
    rintro x w2 ⟨rfl, hb2⟩
    rw [hd.out]
    have hx2 := hx0.step hb2
    obtain ⟨⟨q0, z0⟩, -⟩ := hx2.cells
    go_wp2_with fail
    refine (ROrdered_any _ n N w2 (hv'.out.below hx2.bel) hn).mono ?_
    rintro x w3 ⟨rfl, hb3⟩
    rw [hor'.out]
    have hx3 := hx2.step hb3
    clear q0 z0 hx2 hx0 hb2 hb3
    obtain ⟨⟨q0, z0⟩, -⟩ := hx3.cells
    go_wp2_with fail
    refine (Of_any _ n N a w3 (hv'.out.below hx3.bel) hn ha).mono ?_
    rintro x w4 ⟨b1, k1, e1, rfl, hT1, hb4⟩
    have hx4 := hx3.step hb4
    clear q0 z0 hx3 hb4
    obtain ⟨⟨q0, z0⟩, -⟩ := hx4.cells
    go_wp2_with fail
    refine (Of_any _ n N b w4 (hv'.out.below hx4.bel) hn hb).mono ?_
    rintro x w5 ⟨b2, k2, e2, rfl, hT2, hb5⟩
    have hx5 := hx4.step hb5
    clear q0 z0 hx4 hb5
    by_cases he1 : e1 = 0
    · by_cases he2 : e2 = 0
      · obtain ⟨_, i, b1', rfl, hi, si, rfl, ho⟩ := hT1.good he1
        obtain ⟨_, j, b2', rfl, hj, sj, rfl, ho'⟩ := hT2.good he2
        have hlaw := once_law hO.out hi hj si sj ho ho'
        subst he1 he2
        clear hT1 hT2 ho ho' si sj
        by_cases hij : i = j
        · obtain ⟨rfl, rfl⟩ := hlaw.2 hij
          subst hij
          clear hlaw
          go_wp2_with fail
          refine (wakes11_any w5).mono ?_
          rintro x w6 ⟨rfl, hb6⟩
          go_wp2
          go_ret
          exact ⟨rfl, (hx5.step hb6).bel⟩
        · have hd1 : (((i : Int)) == ((j : Int))) = false := by simp; omega
          by_cases hbb : b1' = b2'
          · subst hbb
            have hd2 : (k1 == k2) = false := by
              simp only [beq_eq_false_iff_ne, ne_eq]
              exact fun h => hij (hlaw.1 ⟨rfl, h⟩)
            clear hlaw hij
            go_wp2_with fail
            refine (wakes11_any w5).mono ?_
            rintro x w6 ⟨rfl, hb6⟩
            go_wp2
            go_ret
            exact ⟨rfl, (hx5.step hb6).bel⟩
          · have hd2 : ((b1' : Int) == (b2' : Int)) = false := by simp; omega
            clear hlaw hij hbb
            go_wp2_with fail
            refine (wakes11_any w5).mono ?_
            rintro x w6 ⟨rfl, hb6⟩
            go_wp2
            go_ret
            exact ⟨rfl, (hx5.step hb6).bel⟩
      · have d2 : (e2 != 0) = true := by simpa using he2
        subst he1
        clear he2 hT1 hT2
        go_wp2_with fail
        refine (wakes11_any w5).mono ?_
        rintro x w6 ⟨rfl, hb6⟩
        go_wp2
        go_ret
        exact ⟨rfl, (hx5.step hb6).bel⟩
    · have d1 : (e1 != 0) = true := by simpa using he1
      clear he1 hT1 hT2
      go_wp2_with fail
      refine (wakes11_any w5).mono ?_
      rintro x w6 ⟨rfl, hb6⟩
      go_wp2
      go_ret
      exact ⟨rfl, (hx5.step hb6).bel⟩

theorem OfT.det {n : Nat} {N : Nat → Nd} {id b k er b' k' er' : Int} (h : OfT n N id b k er) (h' : OfT n N id b' k' er') : b = b' ∧ k = k' ∧ er = er' := by
  cases h with
  | arg h =>
    cases h' with
    | arg => exact ⟨rfl, rfl, rfl⟩
    | sort h1 i hi e => exact absurd ⟨h1, by omega, by omega⟩ h
    | over h1 i hi e => exact absurd ⟨h1, by omega, by omega⟩ h
    | ok h1 i hi e => exact absurd ⟨h1, by omega, by omega⟩ h
  | sort h1 i hi e hs =>
    cases h' with
    | arg h => exact absurd ⟨h1, by omega, by omega⟩ h
    | sort => exact ⟨rfl, rfl, rfl⟩
    | over _ j _ e' hs' => have : i = j := by omega
                           subst this; exact absurd hs' hs
    | ok _ j _ e' hs' => have : i = j := by omega
                         subst this; exact absurd hs' hs
  | over h1 i hi e hs ho =>
    cases h' with
    | arg h => exact absurd ⟨h1, by omega, by omega⟩ h
    | sort _ j _ e' hs' => have : i = j := by omega
                           subst this; exact absurd hs hs'
    | over => exact ⟨rfl, rfl, rfl⟩
    | ok _ j _ e' _ _ _ ho' =>
      have : i = j := by omega
      subst this; have := ofR_det ho ho'; cases this
  | ok h1 i hi e hs b k ho =>
    obtain ⟨e1, e2, e3⟩ := h'.val ⟨h1, i, b, e, hi, hs, rfl, ho⟩
    exact ⟨e1.symm, e2.symm, e3.symm⟩
theorem DiffT.turn {n : Nat} {N : Nat → Nd} {a b c x y d p q d' : Int} (h : DiffT n N a b c x y d 0) (h' : DiffT n N b a (-c - 1) p q d' 0) : x = q ∧ y = p ∧ d + d' = -1 := by
  cases h with
  | e1 _ _ _ _ he => exact absurd rfl he
  | e2 _ _ _ _ _ _ _ he => exact absurd rfl he
  | ok _ m h1 _ k h2 =>
    cases h' with
    | e1 _ _ _ _ he => exact absurd rfl he
    | e2 _ _ _ _ _ _ _ he => exact absurd rfl he
    | ok _ m' h3 _ k' h4 =>
      obtain ⟨u1, u2, _⟩ := h1.det h4
      obtain ⟨u3, u4, _⟩ := h2.det h3
      exact ⟨u1, u3, by omega⟩
theorem DiffT.min {n : Nat} {N : Nat → Nd} {a b x y d er : Int} (h : DiffT n N a b (-9223372036854775808) x y d er) : er ≠ 0 := by
  cases h with
  | e1 _ _ _ _ he => exact he
  | e2 _ _ _ _ _ _ _ he => exact he
  | over => decide
  | ok _ m h1 _ k h2 h3 => unfold subOk at h3; simp [show mayB (-9223372036854775808) = false by decide] at h3

set_option maxHeartbeats 2000000 in
theorem OTurns_any (v : Value) (n : Nat) (N : Nat → Nd) (a b c : Int) (w : World) (hv : NdsAt w v n N) (ha : R64 a) (hb : R64 b) (hc : R64 c) :
    Calls Try.prog 9 #[.agg #[v], .int .i64 a, .int .i64 b, .int .i64 c] w fun x w' => x = .returned (.bool true) ∧ Below w.heap.size w w' := by
  have hv' := Lib.hid hv
  obtain ⟨A, cp, rfl, _, _, _⟩ := hv
  have hx0 := (Bx.nil w).one (.slice A n cp) 24
  by_cases hbig : 300 < n
  · have hd : Hid (decide (300 < n) = true) := by unfold Hid; simpa using hbig
    go_enter Try.func9, Try.ntmps9
    go_wp2_with fail
    refine (Great5_any _ n N _ (hv'.out.below hx0.bel)).mono ?_
    rintro x w2 ⟨rfl, hb2⟩
    rw [hd.out]
    go_wp2_with fail
    refine (wakes11_any w2).mono ?_
    rintro x w3 ⟨rfl, hb3⟩
    go_wp2
    go_ret
    exact ⟨rfl, ((hx0.step hb2).step hb3).bel⟩
  have hd : Hid (decide (300 < n) = false) := by unfold Hid; simpa using hbig
  have hn : n ≤ 1000000 := by omega
  clear hbig
  by_cases hmin : c = -9223372036854775808
  · subst hmin
    go_enter Try.func9, Try.ntmps9
    go_wp2_with fail
    refine (Great5_any _ n N _ (hv'.out.below hx0.bel)).mono ?_
    rintro x w2 ⟨rfl, hb2⟩
    rw [hd.out]
    have hx2 := hx0.step hb2
    obtain ⟨⟨q0, z0⟩, -⟩ := hx2.cells
    go_wp2_with fail
    refine (Diff_any _ n N a b _ w2 (hv'.out.below hx2.bel) hn ha hb hc).mono ?_
    rintro e w3 ⟨x3, y3, d3, e3, rfl, hT3, hb3⟩
    have he3 := hT3.min
    have d1 : (e3 != 0) = true := by simpa using he3
    clear he3 hT3
    have hx3 := hx2.step hb3
    clear q0 z0 hx2 hx0 hb2 hb3
    obtain ⟨⟨q0, z0⟩, -⟩ := hx3.cells
    go_wp2_with fail
    refine (Diff_any _ n N b a _ w3 (hv'.out.below hx3.bel) hn hb ha (by first | exact wrap64_R _ | exact ⟨by decide, by decide⟩)).mono ?_
    rintro e w4 ⟨x4, y4, d4, e4, rfl, hT4, hb4⟩
    have hx4 := hx3.step hb4
    clear q0 z0 hx3 hb4 hT4
    go_wp2_with fail
    refine (wakes11_any w4).mono ?_
    rintro x w6 ⟨rfl, hb6⟩
    go_wp2
    go_ret
    exact ⟨rfl, (hx4.step hb6).bel⟩
  · obtain ⟨hc0, hc1⟩ := hc
    have hc2 : -9223372036854775808 < c := by omega
    clear hmin hc0
    go_enter Try.func9, Try.ntmps9
    go_wp2_with fail
    refine (Great5_any _ n N _ (hv'.out.below hx0.bel)).mono ?_
    rintro x w2 ⟨rfl, hb2⟩
    rw [hd.out]
    have hx2 := hx0.step hb2
    obtain ⟨⟨q0, z0⟩, -⟩ := hx2.cells
    go_wp2_with fail
    refine (Diff_any _ n N a b c w2 (hv'.out.below hx2.bel) hn ha hb (by unfold R64; omega)).mono ?_
    rintro e w3 ⟨x3, y3, d3, e3, rfl, hT3, hb3⟩
    have hx3 := hx2.step hb3
    clear q0 z0 hx2 hx0 hb2 hb3
    obtain ⟨⟨q0, z0⟩, -⟩ := hx3.cells
    go_wp2_with fail
    refine (Diff_any _ n N b a (-c - 1) w3 (hv'.out.below hx3.bel) hn hb ha (by unfold R64; omega)).mono ?_
    rintro e w4 ⟨x4, y4, d4, e4, rfl, hT4, hb4⟩
    have hx4 := hx3.step hb4
    clear q0 z0 hx3 hb4
    by_cases he3 : e3 = 0
    · by_cases he4 : e4 = 0
      · subst he3 he4
        obtain ⟨u1, u2, u3⟩ := hT3.turn hT4
        subst u1 u2
        have s1 : d3 + d4 ≤ -1 := by omega
        have s2 : -1 ≤ d3 + d4 := by omega
        have s3 : (d3 + d4 == -1) = true := by simpa using u3
        clear u3 hT3 hT4
        go_wp2_with fail
        refine (wakes11_any w4).mono ?_
        rintro x w6 ⟨rfl, hb6⟩
        go_wp2
        go_ret
        exact ⟨rfl, (hx4.step hb6).bel⟩
      · have d2 : (e4 != 0) = true := by simpa using he4
        subst he3
        clear he4 hT3 hT4
        go_wp2_with fail
        refine (wakes11_any w4).mono ?_
        rintro x w6 ⟨rfl, hb6⟩
        go_wp2
        go_ret
        exact ⟨rfl, (hx4.step hb6).bel⟩
    · have d1 : (e3 != 0) = true := by simpa using he3
      clear he3 hT3 hT4
      go_wp2_with fail
      refine (wakes11_any w4).mono ?_
      rintro x w6 ⟨rfl, hb6⟩
      go_wp2
      go_ret
      exact ⟨rfl, (hx4.step hb6).bel⟩
end Go.Proofs.Ytoppfcfalciibaa
