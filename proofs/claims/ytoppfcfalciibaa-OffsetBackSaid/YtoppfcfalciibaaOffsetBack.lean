/- The law OffsetBack: the walk. (Printed by wip/offback.gen.py.) -/
import Derived.Test.YtoppfcfalciibaaOffM
namespace Go.Proofs.Ytoppfcfalciibaa
open Go.RowKit Go.Maps
set_option maxRecDepth 100000

theorem LeT.size {n : Nat} {N : Nat → Nd} {a b c most : Int} {m : Nat} {M : Nat → Nd} {id er : Int} {is : Bool} (h : LeT n N a b c most m M id is er) : m ≤ n + 1 := by
  cases h with
  | err => omega
  | tru => omega
  | fls _ _ _ _ _ _ _ _ hp => cases hp <;> omega
  | diff _ _ _ _ _ _ _ _ _ hp => cases hp <;> omega
theorem OPutR.size {n : Nat} {N : Nat → Nd} {b s most : Int} {m : Nat} {M : Nat → Nd} {a er : Int} (h : OPutR n N b s most m M a er) : m ≤ n + 1 := by
  cases h with
  | of => omega
  | own => omega
  | over => omega
  | zero _ _ _ _ _ _ _ _ hp => cases hp <;> omega
  | same => omega
  | add _ _ _ _ _ _ _ _ _ hp => cases hp <;> omega
theorem OAddR.size {n : Nat} {N : Nat → Nd} {id x most : Int} {m : Nat} {M : Nat → Nd} {a er : Int} (h : OAddR n N id x most m M a er) : m ≤ n + 1 := by
  cases h with
  | of => omega
  | over => omega
  | put _ _ _ _ _ _ _ _ hp => exact hp.size
theorem OAddR.idR {n : Nat} {N : Nat → Nd} {id x most : Int} {m : Nat} {M : Nat → Nd} {a : Int} (h : OrdP n N) (hp : OAddR n N id x most m M a 0) (hn : m ≤ 1000000) : R64 a := by
  obtain ⟨_, ⟨b, k, _, _, hT, _⟩, _, _⟩ := hp.back h
  obtain ⟨_, i, _, e, hi, _⟩ := hT.good rfl
  unfold R64; omega

set_option maxHeartbeats 8000000 in
theorem OBack_main (v : Value) (n : Nat) (N : Nat → Nd) (a b m k : Int) (w : World) (hv : NdsAt w v n N) (ha : R64 a) (hb : R64 b) (hm : R64 m) (hk : R64 k) (hn3 : n ≤ 300) (hO : OrdP n N) :
    Calls Try.prog 12 #[.agg #[v], .int .i64 a, .int .i64 b, .int .i64 m, .int .i64 k] w fun x w' => x = .returned (.bool true) ∧ Below w.heap.size w w' := by
  have hv' := Lib.hid hv
  obtain ⟨A, c, rfl, _, _, _⟩ := hv
  have hx0 := (Bx.nil w).one (.slice A n c) 24
  have hd : Hid (decide (300 < n) = false) := by unfold Hid; simp; omega
  have hor := Lib.hid (ordB_iff.2 hO)
  have hO := Lib.hid hO
  have hn : n ≤ 1000000 := by omega
  go_enter Try.func12, Try.ntmps12
  go_wp2_with fail
  refine (Great5_any _ n N _ (hv'.out.below hx0.bel)).mono ?_
  rintro x w2 ⟨rfl, hb2⟩
  rw [hd.out]
  have hx2 := hx0.step hb2
  obtain ⟨⟨q0, z0⟩, -⟩ := hx2.cells
  go_wp2_with fail
  refine (ROrdered_any _ n N w2 (hv'.out.below hx2.bel) hn).mono ?_
  rintro x w3 ⟨rfl, hb3⟩
  rw [hor.out]
  have hx3 := hx2.step hb3
  clear q0 z0 hx2 hx0 hb2 hb3
  obtain ⟨⟨q0, z0⟩, -⟩ := hx3.cells
  go_wp2_with fail
  refine (OAdd_any _ n N a m 1000 w3 (hv'.out.below hx3.bel) hn ha hm ⟨by decide, by decide⟩).mono ?_
  rintro e w4 ⟨v1, m1, M1, id1, e1, rfl, hA1, hN1, hb4⟩
  have hm1 := hA1.size
  have hx4 := hx3.step hb4
  have hN1' := Lib.hid hN1
  obtain ⟨A1, c1, rfl, _, _, _⟩ := hN1
  have hx5 := hx4.one (.slice A1 m1 c1) 24
  have hNu := Lib.hid (hN1'.out.alloc (.cells #[.slice A1 m1 c1] 24))
  clear q0 z0 hx3 hb4 hx4 hN1'
  by_cases he1 : e1 = 0
  · subst he1
    have hid1 := hA1.idR hO.out (by omega)
    obtain ⟨hO1, ⟨bs, ks, hTa, hok, hTu, _⟩, _, _⟩ := hA1.back hO.out
    have hO1' := Lib.hid hO1
    have hor1 := Lib.hid (ordB_iff.2 hO1)
    have hA1' := Lib.hid hA1
    have hksR := addOk_R hok
    have hTa' := Lib.hid hTa
    have hTu' := Lib.hid hTu
    clear hA1 hO1 hTa hTu hok
    generalize hW5 : w4.alloc (.cells #[.slice A1 m1 c1] 24) = w5 at *
    obtain ⟨⟨g0, zg⟩, ⟨q0, z0⟩, -⟩ := hx5.cells
    go_wp2_with fail
    refine (Of_any _ n N a w5 (hv'.out.below hx5.bel) hn ha).mono ?_
    rintro e w6 ⟨b6, k6, e6, rfl, hT6, hb6⟩
    obtain ⟨rfl, rfl, rfl⟩ := hT6.det hTa'.out
    have hx6 := hx5.step hb6
    have hNu6 := Lib.hid (hNu.out.below hb6)
    clear g0 zg q0 z0 hx5 hb6 hNu hT6 hW5
    obtain ⟨⟨g0, zg⟩, ⟨q0, z0⟩, -⟩ := hx6.cells
    go_wp2_with fail
    refine (Of_any _ m1 M1 id1 w6 hNu6.out (by omega) hid1).mono ?_
    rintro e w7 ⟨b7, k7, e7, rfl, hT7, hb7⟩
    obtain ⟨rfl, rfl, rfl⟩ := hT7.det hTu'.out
    have hx7 := hx6.step hb7
    have hNu7 := Lib.hid (hNu6.out.below hb7)
    obtain ⟨ks0, ks1⟩ := hksR
    clear g0 zg q0 z0 hx6 hb7 hNu6 hT7
    obtain ⟨⟨g0, zg⟩, ⟨q0, z0⟩, -⟩ := hx7.cells
    go_wp2_with fail
    refine (Ordered_any _ m1 M1 w7 hNu7.out (by omega)).mono ?_
    rintro x w8 ⟨rfl, hb8⟩
    rw [hor1.out]
    have hx8 := hx7.step hb8
    have hNu8 := Lib.hid (hNu7.out.below hb8)
    clear g0 zg q0 z0 hx7 hb8 hNu7
    obtain ⟨⟨g0, zg⟩, ⟨q0, z0⟩, -⟩ := hx8.cells
    go_wp2_with fail
    refine (RAdd_any m k w8 hm hk).mono ?_
    rintro e w9 ⟨rfl, rfl⟩
    have hsm : ∃ so, so = addOk m k := ⟨_, rfl⟩
    obtain ⟨so, hso⟩ := hsm
    rw [← hso]
    have hso' := Lib.hid hso
    clear hso
    obtain ⟨sx, se, hsv⟩ := numV_form so (m + k)
    rw [hsv]
    have hsv' := Lib.hid hsv
    clear hsv
    go_wp2_with fail
    refine (OAdd_any _ m1 M1 id1 k 1000 w8 hNu8.out (by omega) hid1 hk ⟨by decide, by decide⟩).mono ?_
    rintro e w10 ⟨v2, m2, M2, id2, e2, rfl, hA2, hN2, hb10⟩
    have hm2 := hA2.size
    have hx10 := hx8.step hb10
    have hN2' := Lib.hid hN2
    obtain ⟨A2, c2, rfl, _, _, _⟩ := hN2
    have hx11 := hx10.one (.slice A2 m2 c2) 24
    have hNv := Lib.hid (hN2'.out.alloc (.cells #[.slice A2 m2 c2] 24))
    have hNu11 := Lib.hid ((hNu8.out.below hb10).alloc (.cells #[.slice A2 m2 c2] 24))
    clear g0 zg q0 z0 hx8 hb10 hx10 hN2' hNu8
    generalize hW11 : w10.alloc (.cells #[.slice A2 m2 c2] 24) = w11 at *
    by_cases he2 : e2 = 0
    · subst he2
      cases so with
      | true =>
        have hsv := hsv'.out
        rw [numV_yes rfl] at hsv
        injection hsv with hsv
        simp only [Array.mk.injEq, List.cons.injEq, Value.int.injEq, true_and, and_true] at hsv
        obtain ⟨rfl, rfl⟩ := hsv
        have hRs : R64 (m + k) := addOk_R hso'.out.symm
        obtain ⟨⟨k0, zk⟩, ⟨g0, zg⟩, ⟨q0, z0⟩, -⟩ := hx11.cells
        go_wp2_with fail
        refine (OAdd_any _ m1 M1 a (m + k) 1000 w11 hNu11.out (by omega) ha hRs ⟨by decide, by decide⟩).mono ?_
        rintro e w12 ⟨v3, m3, M3, id3, e3, rfl, hA3, hN3, hb12⟩
        obtain ⟨rfl, rfl, rfl, rfl, hO2⟩ := hA1'.out.both hO.out hA2 hso'.out.symm hA3
        have hor2 := Lib.hid (ordB_iff.2 hO2)
        have hx12 := hx11.step hb12
        have hN3' := Lib.hid hN3
        obtain ⟨A3, c3, rfl, _, _, _⟩ := hN3
        have hx13 := hx12.one (.slice A3 m2 c3) 24
        have hNw := Lib.hid (hN3'.out.alloc (.cells #[.slice A3 m2 c3] 24))
        have hNv13 := Lib.hid ((hNv.out.below hb12).alloc (.cells #[.slice A3 m2 c3] 24))
        have hsm := Lib.hid (same_yes (n := m2) (N := M2) (M := M2) fun _ _ => rfl)
        clear k0 zk g0 zg q0 z0 hx11 hb12 hx12 hN3' hNv hA2 hA3 hO2 hW11
        generalize hW13 : w12.alloc (.cells #[.slice A3 m2 c3] 24) = w13 at *
        obtain ⟨⟨l0, zl⟩, ⟨k0, zk⟩, ⟨g0, zg⟩, ⟨q0, z0⟩, -⟩ := hx13.cells
        go_wp2_with fail
        refine (Same_any _ _ m2 m2 M2 M2 w13 hNv13.out hNw.out).mono ?_
        rintro x w14 ⟨rfl, hb14⟩
        rw [hsm.out]
        have hx14 := hx13.step hb14
        have hNv14 := Lib.hid (hNv13.out.below hb14)
        clear l0 zl k0 zk g0 zg q0 z0 hx13 hb14 hNv13 hW13
        obtain ⟨⟨l0, zl⟩, ⟨k0, zk⟩, ⟨g0, zg⟩, ⟨q0, z0⟩, -⟩ := hx14.cells
        go_wp2_with fail
        refine (Ordered_any _ m2 M2 w14 hNv14.out (by omega)).mono ?_
        rintro x w15 ⟨rfl, hb15⟩
        rw [hor2.out]
        have hx15 := hx14.step hb15
        clear l0 zl k0 zk g0 zg q0 z0 hx14 hb15
        obtain ⟨_, _, _, ⟨q0, z0⟩, -⟩ := hx15.cells
        go_wp2_with fail
        refine (Le_any _ n N a b m 1000 w15 (hv'.out.below hx15.bel) hn ha hb hm ⟨by decide, by decide⟩).mono ?_
        rintro e wl ⟨vl, ml, Ml, idl, isl, el, rfl, hTl, hNl, hbl⟩
        have hml := hTl.size
        have hxl := hx15.step hbl
        have hNl' := Lib.hid hNl
        obtain ⟨Al, cl, rfl, _, _, _⟩ := hNl
        have hxm := hxl.one (.slice Al ml cl) 24
        have hNm := Lib.hid (hNl'.out.alloc (.cells #[.slice Al ml cl] 24))
        clear q0 z0 hNl' hxl hbl
        by_cases hel : el = 0
        · have hOl := Lib.hid (ordB_iff.2 (hTl.ord hO.out hel))
          subst hel
          obtain ⟨⟨g0, z0⟩, -⟩ := hxm.cells
          clear hTl
          generalize hWm : wl.alloc (.cells #[.slice Al ml cl] 24) = wm at *
          go_wp2_with fail
          refine (Ordered_any _ ml Ml wm hNm.out (by omega)).mono ?_
          rintro x wn ⟨rfl, hbn⟩
          rw [hOl.out]
          have hxn := hxm.step hbn
          clear g0 z0
          go_wp2_with fail
          refine (wakes11_any wn).mono ?_
          rintro x wo ⟨rfl, hbo⟩
          go_wp2
          go_ret
          exact ⟨rfl, (hxn.step hbo).bel⟩
        · have del : (el != 0) = true := by simpa using hel
          clear hel hTl
          go_wp2_with fail
          refine (wakes11_any _).mono ?_
          rintro x wo ⟨rfl, hbo⟩
          go_wp2
          go_ret
          exact ⟨rfl, (hxm.step hbo).bel⟩
      | false =>
        have hsv := hsv'.out
        rw [numV_no rfl] at hsv
        injection hsv with hsv
        simp only [Array.mk.injEq, List.cons.injEq, Value.int.injEq, true_and, and_true] at hsv
        obtain ⟨rfl, rfl⟩ := hsv
        clear hA2
        obtain ⟨_, _, ⟨q0, z0⟩, -⟩ := hx11.cells
        go_wp2_with fail
        refine (Le_any _ n N a b m 1000 w11 (hv'.out.below hx11.bel) hn ha hb hm ⟨by decide, by decide⟩).mono ?_
        rintro e wl ⟨vl, ml, Ml, idl, isl, el, rfl, hTl, hNl, hbl⟩
        have hml := hTl.size
        have hxl := hx11.step hbl
        have hNl' := Lib.hid hNl
        obtain ⟨Al, cl, rfl, _, _, _⟩ := hNl
        have hxm := hxl.one (.slice Al ml cl) 24
        have hNm := Lib.hid (hNl'.out.alloc (.cells #[.slice Al ml cl] 24))
        clear q0 z0 hNl' hxl hbl
        by_cases hel : el = 0
        · have hOl := Lib.hid (ordB_iff.2 (hTl.ord hO.out hel))
          subst hel
          obtain ⟨⟨g0, z0⟩, -⟩ := hxm.cells
          clear hTl
          generalize hWm : wl.alloc (.cells #[.slice Al ml cl] 24) = wm at *
          go_wp2_with fail
          refine (Ordered_any _ ml Ml wm hNm.out (by omega)).mono ?_
          rintro x wn ⟨rfl, hbn⟩
          rw [hOl.out]
          have hxn := hxm.step hbn
          clear g0 z0
          go_wp2_with fail
          refine (wakes11_any wn).mono ?_
          rintro x wo ⟨rfl, hbo⟩
          go_wp2
          go_ret
          exact ⟨rfl, (hxn.step hbo).bel⟩
        · have del : (el != 0) = true := by simpa using hel
          clear hel hTl
          go_wp2_with fail
          refine (wakes11_any _).mono ?_
          rintro x wo ⟨rfl, hbo⟩
          go_wp2
          go_ret
          exact ⟨rfl, (hxm.step hbo).bel⟩
    · have de2 : (e2 == 0) = false := by simpa using he2
      clear he2 hA2
      obtain ⟨_, _, ⟨q0, z0⟩, -⟩ := hx11.cells
      go_wp2_with fail
      refine (Le_any _ n N a b m 1000 w11 (hv'.out.below hx11.bel) hn ha hb hm ⟨by decide, by decide⟩).mono ?_
      rintro e wl ⟨vl, ml, Ml, idl, isl, el, rfl, hTl, hNl, hbl⟩
      have hml := hTl.size
      have hxl := hx11.step hbl
      have hNl' := Lib.hid hNl
      obtain ⟨Al, cl, rfl, _, _, _⟩ := hNl
      have hxm := hxl.one (.slice Al ml cl) 24
      have hNm := Lib.hid (hNl'.out.alloc (.cells #[.slice Al ml cl] 24))
      clear q0 z0 hNl' hxl hbl
      by_cases hel : el = 0
      · have hOl := Lib.hid (ordB_iff.2 (hTl.ord hO.out hel))
        subst hel
        obtain ⟨⟨g0, z0⟩, -⟩ := hxm.cells
        clear hTl
        generalize hWm : wl.alloc (.cells #[.slice Al ml cl] 24) = wm at *
        go_wp2_with fail
        refine (Ordered_any _ ml Ml wm hNm.out (by omega)).mono ?_
        rintro x wn ⟨rfl, hbn⟩
        rw [hOl.out]
        have hxn := hxm.step hbn
        clear g0 z0
        go_wp2_with fail
        refine (wakes11_any wn).mono ?_
        rintro x wo ⟨rfl, hbo⟩
        go_wp2
        go_ret
        exact ⟨rfl, (hxn.step hbo).bel⟩
      · have del : (el != 0) = true := by simpa using hel
        clear hel hTl
        go_wp2_with fail
        refine (wakes11_any _).mono ?_
        rintro x wo ⟨rfl, hbo⟩
        go_wp2
        go_ret
        exact ⟨rfl, (hxm.step hbo).bel⟩
  · have de1 : (e1 != 0) = true := by simpa using he1
    clear he1 hA1
    go_wp2_with fail
    refine (wakes11_any _).mono ?_
    rintro x wo ⟨rfl, hbo⟩
    go_wp2
    go_ret
    exact ⟨rfl, (hx5.step hbo).bel⟩
set_option maxHeartbeats 2000000 in
theorem OBack_any (v : Value) (n : Nat) (N : Nat → Nd) (a b m k : Int) (w : World) (hv : NdsAt w v n N) (ha : R64 a) (hb : R64 b) (hm : R64 m) (hk : R64 k) :
    Calls Try.prog 12 #[.agg #[v], .int .i64 a, .int .i64 b, .int .i64 m, .int .i64 k] w fun x w' => x = .returned (.bool true) ∧ Below w.heap.size w w' := by
  have hv' := Lib.hid hv
  obtain ⟨A, c, rfl, _, _, _⟩ := hv
  have hx0 := (Bx.nil w).one (.slice A n c) 24
  by_cases hbig : 300 < n
  · have hd : Hid (decide (300 < n) = true) := by unfold Hid; simpa using hbig
    go_enter Try.func12, Try.ntmps12
    go_wp2_with fail
    refine (Great5_any _ n N _ (hv'.out.below hx0.bel)).mono ?_
    rintro x w2 ⟨rfl, hb2⟩
    rw [hd.out]
    go_wp2_with fail
    refine (wakes11_any w2).mono ?_
    rintro x w3 ⟨rfl, hb3⟩
    go_wp2
    go_ret
    exact ⟨rfl, ((hx0.step hb2).step hb3).bel⟩
  have hd : Hid (decide (300 < n) = false) := by unfold Hid; simpa using hbig
  have hn : n ≤ 1000000 := by omega
  have hn3 : n ≤ 300 := by omega
  clear hbig
  cases hor : ordB n N with
  | false =>
    have hor' := Lib.hid hor
    clear hor
    go_enter Try.func12, Try.ntmps12
    go_wp2_with fail
    refine (Great5_any _ n N _ (hv'.out.below hx0.bel)).mono ?_
    rintro x w2 ⟨rfl, hb2⟩
    rw [hd.out]
    have hx2 := hx0.step hb2
    obtain ⟨⟨q0, z0⟩, -⟩ := hx2.cells
    go_wp2_with fail
    refine (ROrdered_any _ n N w2 (hv'.out.below hx2.bel) hn).mono ?_
    rintro x w3 ⟨rfl, hb3⟩
    rw [hor'.out]
    go_wp2_with fail
    refine (wakes11_any w3).mono ?_
    rintro x w4 ⟨rfl, hb4⟩
    go_wp2
    go_ret
    exact ⟨rfl, ((hx2.step hb3).step hb4).bel⟩
  | true => exact OBack_main (.slice A n c) n N a b m k w hv'.out ha hb hm hk hn3 (ordB_iff.1 hor)
end Go.Proofs.Ytoppfcfalciibaa
