/- The law TermCuts: the walk. -/
import Derived.Test.YtoppfcfalciibaaTermOnce
import Derived.StillTailTactics
namespace Go.Proofs.Ytoppfcfalciibaa
open Go.RowKit Go.Maps

theorem cut_at (n : Nat) (k : Int) (h2 : 2 ≤ n) (hn : n ≤ 300) : ∃ j : Nat, wrap64 (2 + k.tmod ((n : Int) - 1) % ((n : Int) - 1)) = (j : Int) ∧ 2 ≤ j ∧ j ≤ n := by
  have h0 := Int.emod_nonneg (k.tmod ((n : Int) - 1)) (show ((n : Int) - 1) ≠ 0 by omega)
  have h1 := Int.emod_lt_of_pos (k.tmod ((n : Int) - 1)) (show 0 < ((n : Int) - 1) by omega)
  generalize k.tmod ((n : Int) - 1) % ((n : Int) - 1) = x at *
  exact ⟨(2 + x).toNat, by unfold wrap64; omega, by omega, by omega⟩
theorem tmod_bd (k d : Int) (h : 0 < d) : -d < k.tmod d ∧ k.tmod d < d := by
  have := Int.tmod_lt_of_pos k h
  have := Int.lt_tmod_of_pos k h
  omega

theorem Bx.other {w x : World} {K : List (Nat × Nat × Value)} (h : Bx w K x) {b o : Nat} (u : Value) (hne : ∀ a ∈ K, a.1 ≠ b) (hw : w.heap.size ≤ b) : Bx w K (x.setCell ⟨b, o, none⟩ u) := ⟨h.cells.set hne, h.bel.setCell hw _⟩
theorem CheckP.next {n r : Nat} {N : Nat → Nd} (h : CheckP n N) (h2 : 2 ≤ r) (hr : r < n) : CheckP r N ∧ StandsP (N r) r ∧ ∀ i, i < r → N i ≠ N r :=
  ⟨h.cut h2 (by omega), h.all r hr, fun i hi => h.once i r hi hr⟩
theorem extN_self {N : Nat → Nd} {r : Nat} : ∀ i, i < r + 1 → extN N r (N r) i = N i := by
  intro i hi
  unfold extN
  split
  · rfl
  · rw [show i = r by omega]
theorem q9_of {x y : World} {v : Value} {t : TypeId} (hb : Below (x.alloc (.cells #[v] t)).drew.heap.size (x.alloc (.cells #[v] t)).drew y) : y.cell? ⟨x.heap.size, 0, none⟩ = some v ∧ y.frozen? ⟨x.heap.size, 0, none⟩ = false := by
  have hlt : x.heap.size < (x.alloc (.cells #[v] t)).drew.heap.size := by simp
  refine ⟨(hb.cell (p := ⟨x.heap.size, 0, none⟩) hlt).trans ?_, (hb.frozen (p := ⟨x.heap.size, 0, none⟩) hlt).trans ?_⟩
  · simp
  · simp
theorem NdIn.setBox {w : World} {b o : Nat} {e : Nd} (h : NdIn w b o e) {a : Addr} {u : Value} (ha : w.cell? a = some u) (hu : ∀ k x, u ≠ .int k x) (u' : Value) : NdIn (w.setCell a u') b o e := by
  have f : ∀ {p : Addr} {k : IntKind} {x : Int}, w.cell? p = some (.int k x) → (w.setCell a u').cell? p = some (.int k x) := by
    intro p k x hp
    by_cases e : a = p
    · subst e; rw [ha] at hp; injection hp with hp; exact absurd hp (hu _ _)
    · exact (World.cell?_setCell_other _ _ _ _ e).trans hp
  obtain ⟨h0, h1, h2, h3, h4, h5, h6, h7⟩ := h
  exact ⟨f h0, f h1, f h2, f h3, f h4, f h5, f h6, f h7⟩
theorem NdsAt.setBox {w : World} {v : Value} {n : Nat} {N : Nat → Nd} (h : NdsAt w v n N) {a : Addr} {u : Value} (ha : w.cell? a = some u) (hu : ∀ k x, u ≠ .int k x) (u' : Value) : NdsAt (w.setCell a u') v n N := by
  obtain ⟨A, c, rfl, hn, hr, hc⟩ := h
  refine ⟨A, c, rfl, hn, hr, fun h0 => ?_⟩
  obtain ⟨b, o, rfl, hb, hc⟩ := hc h0
  exact ⟨b, o, rfl, by simpa using hb, fun i hi => (hc i hi).setBox ha hu u'⟩
theorem cutS {w x : World} {G b o n c r c' : Nat} {A' : Option Addr} {N : Nat → Nd} (h : Bx w ((G, 0, .slice A' r c') :: (w.heap.size, 0, .slice (some ⟨b, o, none⟩) n c) :: []) x) (hcs : ∀ i, i < n → NdIn w b (o + i * 8) (N i)) (hbl : b < w.heap.size) (hr : r < n) :
    x.cell? ⟨G, 0, none⟩ = some (.slice A' r c') ∧ x.cell? ⟨w.heap.size, 0, none⟩ = some (.slice (some ⟨b, o, none⟩) n c) ∧ x.cell? ⟨b, o + r * 8, none⟩ = some (.int .i8 (N r).op) ∧ x.cell? ⟨b, o + r * 8 + 1, none⟩ = some (.int .i8 (N r).len) ∧ x.cell? ⟨b, o + r * 8 + 2, none⟩ = some (.int .i64 (N r).a0) ∧ x.cell? ⟨b, o + r * 8 + 3, none⟩ = some (.int .i64 (N r).a1) ∧ x.cell? ⟨b, o + r * 8 + 4, none⟩ = some (.int .i64 (N r).a2) ∧ x.cell? ⟨b, o + r * 8 + 5, none⟩ = some (.int .i64 (N r).sort) ∧ x.cell? ⟨b, o + r * 8 + 6, none⟩ = some (.int .i64 (N r).fn) ∧ x.cell? ⟨b, o + r * 8 + 7, none⟩ = some (.int .i64 (N r).num) ∧ Bx w ((G, 0, .slice A' r c') :: (w.heap.size, 0, .slice (some ⟨b, o, none⟩) n c) :: []) x := by
  obtain ⟨⟨g0, _⟩, ⟨q0, _⟩, -⟩ := h.cells
  obtain ⟨f0, f1, f2, f3, f4, f5, f6, f7⟩ := (hcs r hr).below h.bel hbl
  exact ⟨g0, q0, f0, f1, f2, f3, f4, f5, f6, f7, h⟩

set_option maxHeartbeats 4000000 in
set_option maxRecDepth 100000 in
theorem Cuts_main (v : Value) (n : Nat) (N : Nat → Nd) (k : Int) (w : World) (hv : NdsAt w v n N) (hk : R64 k) (hn : n ≤ 300) (hch : CheckP n N) :
    Calls Try.prog 4 #[.agg #[v], .int .i64 k] w fun x w' => x = .returned (.bool true) ∧ Below w.heap.size w w' := by
  have hv' := Lib.hid hv
  have hr := Lib.hid hv.ranges
  obtain ⟨A, c, rfl, hc, _, hcs⟩ := hv
  obtain ⟨hc0, hc1⟩ := hc
  have h2 := hch.two
  obtain ⟨b, o, rfl, hbl, hcs⟩ := hcs (by omega)
  have hcs' := Lib.hid hcs
  clear hcs
  obtain ⟨hk0, hk1⟩ := hk
  have hx0 := (Bx.nil w).one (.slice (some ⟨b, o, none⟩) n c) 24
  have hd : Hid (decide (300 < n) = false) := by unfold Hid; simp; omega
  have hy := Lib.hid (check_yes hch)
  have hch' := Lib.hid hch
  clear hch
  obtain ⟨j, hj, hj2, hjn⟩ := cut_at n k h2 hn
  have hj' := Lib.hid hj
  clear hj
  obtain ⟨t0, t1⟩ := tmod_bd k ((n : Int) - 1) (by omega)
  go_enter Try.func4, Try.ntmps4
  go_wp2_with fail
  refine (Great5_any _ n N _ (hv'.out.below hx0.bel)).mono ?_
  rintro x w2 ⟨rfl, hb2⟩
  rw [hd.out]
  have hx2 := hx0.step hb2
  obtain ⟨⟨q0, _⟩, -⟩ := hx2.cells
  go_wp2_with fail
  refine (RCheck_any _ n N w2 (hv'.out.below hx2.bel) (by omega)).mono ?_
  rintro x w3 ⟨rfl, hb3⟩
  rw [hy.out]
  have hx3 := hx2.step hb3
  clear q0 hb2 hb3 hx2 hx0
  obtain ⟨⟨q0, _⟩, -⟩ := hx3.cells
  go_wp2_with fail
  rw [hj'.out]
  clear t0 t1
  refine (Cut_any _ n N j w3 (hv'.out.below hx3.bel) (by omega) (by unfold R64; omega)).mono ?_
  rintro x w4 ⟨v4, m4, er4, rfl, hR4, hN4, hb4⟩
  obtain ⟨e4, rfl⟩ := hR4.good hch'.out hj2 hjn
  subst e4
  have hN4' := Lib.hid hN4
  obtain ⟨A4, c4, rfl, _, _, _⟩ := hN4
  have hx4 := (hx3.step hb4).one (.slice A4 m4 c4) 24
  have hN4a := Lib.hid (hN4'.out.alloc (.cells #[.slice A4 m4 c4] 24))
  clear hR4 hx3 q0
  obtain ⟨⟨g0, z0⟩, ⟨q0, _⟩, -⟩ := hx4.cells
  have hx4' := Lib.hid hx4
  have d0 : decide (n < m4) = false := by simp; omega
  have hz4 : w.heap.size < w4.heap.size := by
    have := (hx4.bel).size; simp at this; have := hb4.size; have := hx4.cells.2.1.2; simp at this; omega
  clear hx4 hN4'
  generalize hW4 : w4.alloc (.cells #[.slice A4 m4 c4] 24) = W4 at *
  have fz4 : W4.frozen? ⟨w4.heap.size, 0, none⟩ = false := by rw [← hW4]; simp
  go_wp2
  clear hW4 g0 z0 q0 d0 hb4
  generalize hG : w4.heap.size = G at *
  have hG' := Lib.hid hG
  clear hG
  go_loopw [8] (fun i wr => ∃ (r : Nat) (A' : Option Addr) (c' : Nat), m4 ≤ r ∧ r ≤ n ∧ i = .int .i64 r ∧ Hid (NdsAt wr (.slice A' r c') r N) ∧ Hid (Bx w ((G, 0, .slice A' r c') :: (w.heap.size, 0, .slice (some ⟨b, o, none⟩) n c) :: []) wr) ∧ wr.frozen? ⟨G, 0, none⟩ = false) (fun i _ => n - (intOf i).toNat)
  case atStart => exact ⟨m4, A4, c4, Nat.le_refl _, hjn, rfl, hN4a.out, hx4'.out, fz4⟩
  case round =>
    clear hx4' hN4a
    obtain ⟨r, A', c', hr1, hr2, rfl, hNr, hxr, hfr⟩ := hrel
    have hxr' := hxr.out
    obtain ⟨⟨g0, z0⟩, ⟨q0, z1⟩, -⟩ := hxr'.cells
    by_cases hlt : r < n
    · obtain ⟨e0, e1, e2, e3, e4, e5, e6, e7⟩ := (hcs'.out r hlt).below hxr'.bel hbl
      have i1 : (r : Int) < (n : Int) := by omega
      have hRr := Lib.hid (hr.out r hlt)
      go_wp2_with fail
      have hs0 := Lib.hid (cutS hxr'.drew hcs'.out hbl hlt)
      clear g0 z0 q0 z1 e0 e1 e2 e3 e4 e5 e6 e7
      obtain ⟨hn1, hn2, hn3⟩ := hch'.out.next (r := r) (by omega) hlt
      have hn1' := Lib.hid hn1
      have hn2' := Lib.hid hn2
      have hn3' := Lib.hid hn3
      clear hn1 hn2 hn3
      have hzr : w.heap.size < wr.heap.size := hxr'.cells.2.1.2
      have hzG : G < wr.heap.size := hxr'.cells.1.2
      have hwr := hxr'.bel.size
      have hPA := Put_any _ r N (N r) 300 (wr.drew) hNr.out.drew (by omega) hRr.out ⟨by decide, by decide⟩
      have hPB := Put_any _ r N (N r) 300 ((wr.alloc (.cells #[.slice none 0 0] 24)).drew) (hNr.out.alloc _).drew (by omega) hRr.out ⟨by decide, by decide⟩
      unfold ndV at hPA hPB
      go_region_held3 (fun x => x.cell? ⟨G, 0, none⟩ = some (.slice A' r c') ∧ x.cell? ⟨w.heap.size, 0, none⟩ = some (.slice (some ⟨b, o, none⟩) n c) ∧ x.cell? ⟨b, o + r * 8, none⟩ = some (.int .i8 (N r).op) ∧ x.cell? ⟨b, o + r * 8 + 1, none⟩ = some (.int .i8 (N r).len) ∧ x.cell? ⟨b, o + r * 8 + 2, none⟩ = some (.int .i64 (N r).a0) ∧ x.cell? ⟨b, o + r * 8 + 3, none⟩ = some (.int .i64 (N r).a1) ∧ x.cell? ⟨b, o + r * 8 + 4, none⟩ = some (.int .i64 (N r).a2) ∧ x.cell? ⟨b, o + r * 8 + 5, none⟩ = some (.int .i64 (N r).sort) ∧ x.cell? ⟨b, o + r * 8 + 6, none⟩ = some (.int .i64 (N r).fn) ∧ x.cell? ⟨b, o + r * 8 + 7, none⟩ = some (.int .i64 (N r).num) ∧ Bx w ((G, 0, .slice A' r c') :: (w.heap.size, 0, .slice (some ⟨b, o, none⟩) n c) :: []) x)
        (first | exact hs0.out | exact hs1 | exact cutS (hx5.skip _) hcs'.out hbl hlt | exact cutS (hxr'.drew.skip _) hcs'.out hbl hlt | exact cutS (hxr'.skip _).drew hcs'.out hbl hlt | exact cutS (hx5.other (b := wr.heap.size) _ (by intro a ha; simp at ha; rcases ha with rfl | rfl <;> simp <;> omega) hwr) hcs'.out hbl hlt | fail)
        (first | (go_at_call 16; (with_reducible refine Calls.mono hPA ?_); rintro x w5 ⟨v5, m5, M5, at5, er5, rfl, hR5, hN5, hb5⟩; have hx5 := hxr'.drew.step hb5; have hs1 := cutS hx5 hcs'.out hbl hlt; (obtain ⟨rfl, rfl, rfl, rfl⟩ := hR5.new hn1'.out hn2'.out hn3'.out (by omega)); have hN5' := Lib.hid (hN5.congr extN_self); (obtain ⟨A5, c5, rfl, _, _, _⟩ := hN5)) | (go_at_call 16; (with_reducible refine Calls.mono hPB ?_); rintro x w5 ⟨v5, m5, M5, at5, er5, rfl, hR5, hN5, hb5⟩; have hx5 := (hxr'.skip _).drew.step hb5; have hs1 := cutS hx5 hcs'.out hbl hlt; (obtain ⟨q9, f9⟩ := q9_of hb5); (obtain ⟨rfl, rfl, rfl, rfl⟩ := hR5.new hn1'.out hn2'.out hn3'.out (by omega)); have hN5' := Lib.hid (hN5.congr extN_self); (obtain ⟨A5, c5, rfl, _, _, _⟩ := hN5)))
      · have fG : w5.frozen? ⟨G, 0, none⟩ = false := (hb5.frozen (p := ⟨G, 0, none⟩) hzG).trans hfr
        have hx6 := hx5.skip (.cells #[.slice A5 (r + 1) c5] 24)
        have hN6 := Lib.hid (hN5'.out.alloc (.cells #[.slice A5 (r + 1) c5] 24))
        have hx6' := Lib.hid hx6
        have hG5 := hx5.cells.1.2
        obtain ⟨⟨g0, z0⟩, ⟨q0, z1⟩, -⟩ := hx6.cells
        have c9 : (w5.alloc (.cells #[.slice A5 (r + 1) c5] 24)).cell? ⟨w5.heap.size, 0, none⟩ = some (.slice A5 (r + 1) c5) := by simp
        have fG' : (w5.alloc (.cells #[.slice A5 (r + 1) c5] 24)).frozen? ⟨G, 0, none⟩ = false := (((Below.refl w5.heap.size w5).alloc (Nat.le_refl _) _).frozen (p := ⟨G, 0, none⟩) hG5).trans fG
        clear hs0 hs1 hPA hPB hx6
        generalize w5.alloc (.cells #[.slice A5 (r + 1) c5] 24) = w6 at *
        go_wp2
        go_roundw
        case rel =>
          refine ⟨r + 1, A5, c5, by omega, by omega, by go_num, ?_, ?_, ?_⟩
          · exact hN6.out.setBox hx6'.out.cells.1.1 (fun _ _ h => by cases h) _
          · exact hx6'.out.set _ (by intro a ha; simp at ha; subst ha; simp; omega) (by omega)
          · rw [World.frozen?_setCell]; exact fG'
        case measure => simp [intOf]; omega
      · have fG : w5.frozen? ⟨G, 0, none⟩ = false := (hb5.frozen (p := ⟨G, 0, none⟩) (by simp; omega)).trans ((((Below.refl wr.heap.size wr).alloc (Nat.le_refl _) _).drew.frozen (p := ⟨G, 0, none⟩) hzG).trans hfr)
        have hne : ∀ a ∈ ([(G, 0, .slice A' r c'), (w.heap.size, 0, .slice (some ⟨b, o, none⟩) n c)] : List (Nat × Nat × Value)), a.1 ≠ wr.heap.size := by intro a ha; simp at ha; rcases ha with rfl | rfl <;> simp <;> omega
        have hx6 := hx5.other (b := wr.heap.size) (o := 0) (.slice A5 (r + 1) c5) hne hwr
        have hN6 := Lib.hid (hN5'.out.setBox q9 (fun _ _ h => by cases h) (.slice A5 (r + 1) c5))
        have hx6' := Lib.hid hx6
        have hz9 : wr.heap.size < w5.heap.size := by have := hb5.size; simp at this; omega
        obtain ⟨⟨g0, z0⟩, ⟨q0, z1⟩, -⟩ := hx6.cells
        have c9 : (w5.setCell ⟨wr.heap.size, 0, none⟩ (.slice A5 (r + 1) c5)).cell? ⟨wr.heap.size, 0, none⟩ = some (.slice A5 (r + 1) c5) := World.cell?_setCell_same' _ _ _ (by rw [q9]; rfl)
        have fG' : (w5.setCell ⟨wr.heap.size, 0, none⟩ (.slice A5 (r + 1) c5)).frozen? ⟨G, 0, none⟩ = false := by rw [World.frozen?_setCell]; exact fG
        clear hs0 hs1 hPA hPB hx6 hne
        generalize w5.setCell ⟨wr.heap.size, 0, none⟩ (.slice A5 (r + 1) c5) = w6 at *
        go_wp2
        go_roundw
        case rel =>
          refine ⟨r + 1, A5, c5, by omega, by omega, by go_num, ?_, ?_, ?_⟩
          · exact hN6.out.setBox hx6'.out.cells.1.1 (fun _ _ h => by cases h) _
          · exact hx6'.out.set _ (by intro a ha; simp at ha; subst ha; simp; omega) (by omega)
          · rw [World.frozen?_setCell]; exact fG'
        case measure => simp [intOf]; omega
    · obtain rfl : r = n := by omega
      have hs := Lib.hid (same_yes (n := r) (N := N) (M := N) fun _ _ => rfl)
      go_wp2_with fail
      refine (Same_any _ _ r r N N wr (hv'.out.below hxr'.bel) hNr.out).mono ?_
      rintro x w5 ⟨rfl, hb5⟩
      rw [hs.out]
      have hx5 := hxr'.step hb5
      clear g0 z0 q0 z1
      go_wp2_with fail
      refine (wakes05_any w5).mono ?_
      rintro x w6 ⟨rfl, hb6⟩
      go_wp2
      go_ret
      exact ⟨rfl, (hx5.step hb6).bel⟩

set_option maxHeartbeats 1000000 in
set_option maxRecDepth 100000 in
theorem Cuts_any (v : Value) (n : Nat) (N : Nat → Nd) (k : Int) (w : World) (hv : NdsAt w v n N) (hk : R64 k) :
    Calls Try.prog 4 #[.agg #[v], .int .i64 k] w fun x w' => x = .returned (.bool true) ∧ Below w.heap.size w w' := by
  have hv' := Lib.hid hv
  obtain ⟨A, c, rfl, hc, _, _⟩ := hv
  have hx0 := (Bx.nil w).one (.slice A n c) 24
  by_cases hbig : 300 < n
  · have hd : Hid (decide (300 < n) = true) := by unfold Hid; simpa using hbig
    go_enter Try.func4, Try.ntmps4
    go_wp2_with fail
    refine (Great5_any _ n N _ (hv'.out.below hx0.bel)).mono ?_
    rintro x w2 ⟨rfl, hb2⟩
    rw [hd.out]
    go_wp2_with fail
    refine (wakes05_any w2).mono ?_
    rintro x w3 ⟨rfl, hb3⟩
    go_wp2
    go_ret
    exact ⟨rfl, ((hx0.step hb2).step hb3).bel⟩
  have hd : Hid (decide (300 < n) = false) := by unfold Hid; simpa using hbig
  have hn : n ≤ 300 := by omega
  clear hbig
  rcases Classical.em (CheckP n N) with hch | hch
  · exact Cuts_main (.slice A n c) n N k w hv'.out hk hn hch
  · have hy := Lib.hid (check_not hch)
    clear hch
    go_enter Try.func4, Try.ntmps4
    go_wp2_with fail
    refine (Great5_any _ n N _ (hv'.out.below hx0.bel)).mono ?_
    rintro x w2 ⟨rfl, hb2⟩
    rw [hd.out]
    have hx2 := hx0.step hb2
    obtain ⟨⟨q0, _⟩, -⟩ := hx2.cells
    go_wp2_with fail
    refine (RCheck_any _ n N w2 (hv'.out.below hx2.bel) (by omega)).mono ?_
    rintro x w3 ⟨rfl, hb3⟩
    rw [hy.out]
    go_wp2_with fail
    refine (wakes05_any w3).mono ?_
    rintro x w4 ⟨rfl, hb4⟩
    go_wp2
    go_ret
    exact ⟨rfl, ((hx2.step hb3).step hb4).bel⟩
end Go.Proofs.Ytoppfcfalciibaa
