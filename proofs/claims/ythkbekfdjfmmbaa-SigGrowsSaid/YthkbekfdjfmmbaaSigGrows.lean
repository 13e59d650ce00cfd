/- The law SigGrows: the walk. -/
import Derived.Test.YthkbekfdjfmmbaaSigTwice
import Derived.Test.YthkbekfdjfmmbaaSigQ
import Derived.Test.YthkbekfdjfmmbaaSameG
import Derived.BigGuardPart
namespace Go.Proofs.Ythkbekfdjfmmbaa
open Go.RowKit
set_option maxRecDepth 1000000

theorem findV_two (n : Nat) : findV (2 + (n : Int)) = .tuple #[.int .i64 (2 + (n : Int)), .bool true] := by
  unfold findV
  rw [Int.max_eq_left (by omega), decide_eq_true (by omega)]
set_option maxHeartbeats 16000000 in
theorem SigGrows_any (sv fv mv : Value) (g : Sg) (name : ByteArray) (f : Fn) (other : ByteArray) (w : World) (hG : SgAt w sv fv mv g) (hn : StrR name) (hf : FnR f) (ho : StrR other) :
    Calls Try.prog 4 #[.agg #[sv, fv, mv], .string name, fnV f, .string other] w fun e w' => e = .returned (.bool true) ∧ Below w.heap.size w w' := by
  have hx0 := Lib.hid (fgbox_bx w sv fv mv f)
  have hwk := Lib.hid wakes04_any
  have hG' := Lib.hid hG
  have hf' := Lib.hid hf
  have hn' := Lib.hid hn
  have ho' := Lib.hid ho
  obtain ⟨A, c, rfl, -, -⟩ := hG.1
  obtain ⟨FA, fc, rfl, -, -⟩ := hG.2.1
  obtain ⟨MA, mc, rfl, -, -⟩ := hG.2.2
  clear hG hf hn ho
  unfold fnV
  go_enter Try.func4, Try.ntmps4
  go_wp2_with fail
  refine (Great_any _ _ _ g _ (hG'.out.below hx0.out.bel)).mono ?_
  rintro e w1 ⟨⟨bb, rfl, hfew⟩, hb1⟩
  have hx1 := Lib.hid (hx0.out.step hb1)
  have hfew' := Lib.hid hfew
  clear hb1 hx0 hfew
  cases bb with
  | true =>
    go_wp2_with (go_at_call 11; (with_reducible refine (hwk.out _).mono ?_); rintro e w2 ⟨rfl, hb2⟩; have hx2 := Lib.hid (hx1.out.step hb2))
    go_ret
    exact ⟨rfl, hx2.out.bel⟩
  | false =>
    have hfw := Lib.hid (hfew'.out rfl)
    have hnsb : g.ns ≤ 1000 := hfw.out.ns
    have hnfb : g.nf ≤ 1000 := hfw.out.nf
    have q1 := fgbox_cells hx1.out
    unfold fgCells at q1
    obtain ⟨k0, k1, k2, k3, k4, k5, k6, k7, k8⟩ := q1
    clear hfew'
    go_upto_if 44 with fail
    generalize decide (600 < wrap64 (wrap64 ((name.size : Int) + (f.name.size : Int)) + (other.size : Int))) = q
    cases q with
    | true =>
      go_wp2_with (go_at_call 11; (with_reducible refine (hwk.out _).mono ?_); rintro e w2 ⟨rfl, hb2⟩; have hx2 := Lib.hid (hx1.out.step hb2))
      go_ret
      exact ⟨rfl, hx2.out.bel⟩
    | false =>
      go_wp2_with fail
      go_quiet (fail)
      have hx1d := Lib.hid (hx1.out.drewN nq)
      go_wp2_with fail
      refine (AddSort_any _ _ _ g name _ (hG'.out.below hx1d.out.bel) hfw.out hn'.out).mono ?_
      rintro e w2 ⟨⟨A1, n1, c1, FA1, nf1, fc1, MA1, nm1, mc1, rfl, hG1⟩, hb2⟩
      have hx2 := Lib.hid ((hx1d.out.step hb2).three (.slice A1 n1 c1) (.slice FA1 nf1 fc1) (.slice MA1 nm1 mc1) 26)
      have hG1' := Lib.hid hG1
      clear hb2 hG1 k0 k1 k2 k3 k4 k5 k6 k7 k8 hx1 hx1d
      go_upto_if 62 with fail
      go_cut [14, 15, 16, 17, 18, 19, 20, 21] from 55 to 126 (fun _ _ _ _ _ _ _ _ y => Hid (Bx w (fgbox w (.slice A g.ns c) (.slice FA g.nf fc) (.slice MA g.nm mc) f) y))
      case first =>
        by_cases ha : addI g name true true g.ns 4 = 0
        · have hG2 := Lib.hid ((hG1'.out ha).alloc (.cells #[.slice A1 n1 c1, .slice FA1 nf1 fc1, .slice MA1 nm1 mc1] 26))
          have hfr := (addI_zero ha).2.1
          have hcg := Lib.hid ((addI_zero ha).1.addS (addI_zero ha).2.1 (addI_zero ha).2.2.2)
          have hc0 := Lib.hid (addI_zero ha).1
          have hs1 := grows_name hfr
          have d1 : (addI g name true true g.ns 4 == 0) = true := by simpa using ha
          have hS1 := Sort_any _ _ _ (g.addS name) name _ hG2.out (few_addS hcg.out)
          rw [hs1, show ((g.ns + 2 : Nat) : Int) = 2 + (g.ns : Int) by omega, findV_two] at hS1
          have hS1' := Lib.hid hS1
          clear ha hfr hs1 hS1 hG1'
          by_cases he : other = name
          · have hE1 : (other.toList == name.toList) = true := by rw [he]; simp
            have hE2 : (other.toList != name.toList) = false := by rw [he]; simp
            have hO : Hid (∀ v, findV (sortI (g.addS name) other) = v → ∃ (m2 : Int) (q2 : Bool), v = .tuple #[.int .i64 m2, .bool q2]) := fun v h => ⟨_, _, h.symm.trans rfl⟩
            obtain ⟨m2, q2, h2⟩ := hO.out _ rfl
            have hO2 : Hid (∀ v, findV (sortI g other) = v → ∃ (m2 : Int) (q2 : Bool), v = .tuple #[.int .i64 m2, .bool q2]) := fun v h => ⟨_, _, h.symm.trans rfl⟩
            obtain ⟨m3, q3, h3⟩ := hO2.out _ rfl
            clear hO hO2 he
            have hf2 := Lib.hid h2
            have hf3 := Lib.hid h3
            clear h2 h3
            go_wp2_with fail
            refine hS1'.out.mono ?_
            rintro e w3 ⟨rfl, hb3⟩
            have hx3 := Lib.hid (hx2.out.step hb3)
            have hG3 := Lib.hid (hG2.out.below hb3)
            have hq := Sort_any _ _ _ (g.addS name) other _ hG3.out (few_addS hcg.out)
            rw [hf2.out] at hq
            have hq' := Lib.hid hq
            obtain ⟨r0, r1, r2⟩ := bx3_cells hx3.out.left
            clear hb3 hq
            go_wp2_with fail
            clear r0 r1 r2
            refine hq'.out.mono ?_
            rintro e w4 ⟨rfl, hb4⟩
            have hx4 := Lib.hid (hx3.out.step hb4)
            have hG4 := Lib.hid (hG3.out.below hb4)
            have hq := Sort_any _ _ _ g other _ (hG'.out.below hx4.out.bel) hfw.out
            rw [hf3.out] at hq
            have hq2 := Lib.hid hq
            obtain ⟨k0, k1, k2, k3, k4, k5, k6, k7, k8⟩ := fgbox_cells hx4.out.right
            clear hb4 hq hq' hG3 hx3 k0 k1 k2 k3 k4 k5
            go_wp2_with fail
            clear k6 k7 k8
            refine hq2.out.mono ?_
            rintro e w5 ⟨rfl, hb5⟩
            have hx5 := Lib.hid (hx4.out.step hb5)
            have hG5 := Lib.hid (hG4.out.below hb5)
            have hcut := Lib.hid (Cut_yes _ _ _ (g.addS name) g.ns g.nf g.nm _ hG5.out (few_addS hcg.out) hcg.out (by show g.ns ≤ g.ns + 1; omega) (Nat.le_refl _) (Nat.le_refl _) (hc0.out.congr (cut_addS g name).symm))
            obtain ⟨r0, r1, r2⟩ := bx3_cells hx5.out.left
            clear hb5 hq2 hG4 hx4
            go_wp2_with fail
            clear r0 r1 r2
            refine hcut.out.mono ?_
            rintro e w6 ⟨A3, FA3, MA3, rfl, hG6, hb6⟩
            have hx6 := Lib.hid ((hx5.out.step hb6).skip (.cells #[.slice A3 g.ns g.ns, .slice FA3 g.nf g.nf, .slice MA3 g.nm g.nm] 26))
            have hcg6 := Lib.hid ((hG5.out.below hb6).alloc (.cells #[.slice A3 g.ns g.ns, .slice FA3 g.nf g.nf, .slice MA3 g.nm g.nm] 26))
            have hsm := Lib.hid (Same_any _ _ _ _ _ _ g _ ((hG6.congr (cut_addS g name)).alloc (.cells #[.slice A3 g.ns g.ns, .slice FA3 g.nf g.nf, .slice MA3 g.nm g.nm] 26)) (hG'.out.below hx6.out.bel) ⟨hfw.out.ns, hfw.out.nf, hfw.out.nm⟩)
            obtain ⟨k0, k1, k2, k3, k4, k5, k6, k7, k8⟩ := fgbox_cells hx6.out.right
            clear hb6 hG6 hcut hG5 hx5 k0 k1 k2 k3 k4 k5
            go_wp2_with fail
            refine hsm.out.mono ?_
            rintro e w7 ⟨rfl, hb7⟩
            have hx7 := Lib.hid (hx6.out.step hb7)
            have hch := SCheck_any _ _ _ (g.addS name) _ (hcg6.out.below hb7) (few_addS hcg.out)
            rw [(checkG_iff _).2 hcg.out] at hch
            have hch' := Lib.hid hch
            obtain ⟨r0, r1, r2⟩ := bx3_cells hx7.out.left
            clear hb7 hsm hx6 hcg6 hch k6 k7 k8
            go_wp2_with fail
            refine hch'.out.mono ?_
            rintro e w8 ⟨rfl, hb8⟩
            have hx8 := Lib.hid (hx7.out.step hb8)
            unfold chV
            clear hb8 hx7
            go_wp2_with fail
            go_meet
            exact hx8.out.right
          · have hE1 : (other.toList == name.toList) = false := eqS_ne he
            have hE2 : (other.toList != name.toList) = true := by rw [bne, hE1]; rfl
            have hsame := grows_other (g := g) he
            have hO : Hid (∀ v, findV (sortI g other) = v → ∃ (m2 : Int) (q2 : Bool), v = .tuple #[.int .i64 m2, .bool q2]) := fun v h => ⟨_, _, h.symm.trans rfl⟩
            obtain ⟨m2, q2, h3⟩ := hO.out _ rfl
            have h2 : findV (sortI (g.addS name) other) = .tuple #[.int .i64 m2, .bool q2] := by rw [hsame]; exact h3
            clear hO he hsame
            have hf2 := Lib.hid h2
            have hf3 := Lib.hid h3
            clear h2 h3
            go_wp2_with fail
            refine hS1'.out.mono ?_
            rintro e w3 ⟨rfl, hb3⟩
            have hx3 := Lib.hid (hx2.out.step hb3)
            have hG3 := Lib.hid (hG2.out.below hb3)
            have hq := Sort_any _ _ _ (g.addS name) other _ hG3.out (few_addS hcg.out)
            rw [hf2.out] at hq
            have hq' := Lib.hid hq
            obtain ⟨r0, r1, r2⟩ := bx3_cells hx3.out.left
            clear hb3 hq
            go_wp2_with fail
            clear r0 r1 r2
            refine hq'.out.mono ?_
            rintro e w4 ⟨rfl, hb4⟩
            have hx4 := Lib.hid (hx3.out.step hb4)
            have hG4 := Lib.hid (hG3.out.below hb4)
            have hq := Sort_any _ _ _ g other _ (hG'.out.below hx4.out.bel) hfw.out
            rw [hf3.out] at hq
            have hq2 := Lib.hid hq
            obtain ⟨k0, k1, k2, k3, k4, k5, k6, k7, k8⟩ := fgbox_cells hx4.out.right
            clear hb4 hq hq' hG3 hx3 k0 k1 k2 k3 k4 k5
            go_wp2_with fail
            clear k6 k7 k8
            refine hq2.out.mono ?_
            rintro e w5 ⟨rfl, hb5⟩
            have hx5 := Lib.hid (hx4.out.step hb5)
            have hG5 := Lib.hid (hG4.out.below hb5)
            have hcut := Lib.hid (Cut_yes _ _ _ (g.addS name) g.ns g.nf g.nm _ hG5.out (few_addS hcg.out) hcg.out (by show g.ns ≤ g.ns + 1; omega) (Nat.le_refl _) (Nat.le_refl _) (hc0.out.congr (cut_addS g name).symm))
            obtain ⟨r0, r1, r2⟩ := bx3_cells hx5.out.left
            clear hb5 hq2 hG4 hx4
            go_wp2_with fail
            clear r0 r1 r2
            refine hcut.out.mono ?_
            rintro e w6 ⟨A3, FA3, MA3, rfl, hG6, hb6⟩
            have hx6 := Lib.hid ((hx5.out.step hb6).skip (.cells #[.slice A3 g.ns g.ns, .slice FA3 g.nf g.nf, .slice MA3 g.nm g.nm] 26))
            have hcg6 := Lib.hid ((hG5.out.below hb6).alloc (.cells #[.slice A3 g.ns g.ns, .slice FA3 g.nf g.nf, .slice MA3 g.nm g.nm] 26))
            have hsm := Lib.hid (Same_any _ _ _ _ _ _ g _ ((hG6.congr (cut_addS g name)).alloc (.cells #[.slice A3 g.ns g.ns, .slice FA3 g.nf g.nf, .slice MA3 g.nm g.nm] 26)) (hG'.out.below hx6.out.bel) ⟨hfw.out.ns, hfw.out.nf, hfw.out.nm⟩)
            obtain ⟨k0, k1, k2, k3, k4, k5, k6, k7, k8⟩ := fgbox_cells hx6.out.right
            clear hb6 hG6 hcut hG5 hx5 k0 k1 k2 k3 k4 k5
            go_wp2_with fail
            refine hsm.out.mono ?_
            rintro e w7 ⟨rfl, hb7⟩
            have hx7 := Lib.hid (hx6.out.step hb7)
            have hch := SCheck_any _ _ _ (g.addS name) _ (hcg6.out.below hb7) (few_addS hcg.out)
            rw [(checkG_iff _).2 hcg.out] at hch
            have hch' := Lib.hid hch
            obtain ⟨r0, r1, r2⟩ := bx3_cells hx7.out.left
            clear hb7 hsm hx6 hcg6 hch k6 k7 k8
            go_wp2_with fail
            refine hch'.out.mono ?_
            rintro e w8 ⟨rfl, hb8⟩
            have hx8 := Lib.hid (hx7.out.step hb8)
            unfold chV
            clear hb8 hx7
            go_wp2_with fail
            go_meet
            exact hx8.out.right
        · have d1 : (addI g name true true g.ns 4 == 0) = false := by simpa using ha
          clear ha
          go_wp2_with fail
          go_meet
          exact hx2.out.right
      case rest =>
        have hx4 := hcut
        clear hx2 hG1' hcut
        obtain ⟨k0, k1, k2, k3, k4, k5, k6, k7, k8⟩ := fgbox_cells hx4.out
        go_wp2_with fail
        refine (AddFun_any _ _ _ g f _ (hG'.out.below hx4.out.bel) hfw.out hf'.out).mono ?_
        rintro e w5 ⟨⟨A2, n2, c2, FA2, nf2, fc2, MA2, nm2, mc2, rfl, hG2⟩, hb5⟩
        have hx5 := Lib.hid ((hx4.out.step hb5).three (.slice A2 n2 c2) (.slice FA2 nf2 fc2) (.slice MA2 nm2 mc2) 26)
        have hG2' := Lib.hid hG2
        clear hb5 hG2 k0 k1 k2 k3 k4 k5 k6 k7 k8 hx4
        by_cases ha : afI g f = 0
        · have hG3 := Lib.hid ((hG2'.out ha).alloc (.cells #[.slice A2 n2 c2, .slice FA2 nf2 fc2, .slice MA2 nm2 mc2] 26))
          have hc0 := Lib.hid (addI_zero ha).1
          have hfr0 := (addI_zero ha).2.1
          have hfr := Lib.hid (freeI_there (freeI_fun hfr0).1 (twice_taken (g := g) (f := f)))
          have hcg := Lib.hid ((addI_zero ha).1.addF (addI_zero ha).2.1 (addI_zero ha).2.2.1 (addI_zero ha).2.2.2)
          have d1 : (afI g f != 0) = false := by simpa using ha
          have hs1 := grows_fun hfr0
          have hS1 := Fun_any _ _ _ (g.addF f) f.name _ hG3.out
          rw [hs1, findV_nat] at hS1
          have hS1' := Lib.hid hS1
          clear ha hfr0 hs1 hS1 hG2'
          obtain ⟨j0, j1, j2, j3, j4, j5, j6, j7, j8⟩ := fgbox_cells hx5.out.right
          clear j1 j2 j3 j4 j5 j6 j7 j8
          by_cases he : other = f.name
          · have hE1 : (other.toList == f.name.toList) = true := by rw [he]; simp
            have hO : Hid (∀ v, findV (funI (g.addF f) other) = v → ∃ (m2 : Int) (q2 : Bool), v = .tuple #[.int .i64 m2, .bool q2]) := fun v h => ⟨_, _, h.symm.trans rfl⟩
            obtain ⟨m2, q2, h2⟩ := hO.out _ rfl
            have hO2 : Hid (∀ v, findV (funI g other) = v → ∃ (m2 : Int) (q2 : Bool), v = .tuple #[.int .i64 m2, .bool q2]) := fun v h => ⟨_, _, h.symm.trans rfl⟩
            obtain ⟨m3, q3, h3⟩ := hO2.out _ rfl
            clear hO hO2 he
            have hf2 := Lib.hid h2
            have hf3 := Lib.hid h3
            clear h2 h3
            go_wp2_with fail
            refine hS1'.out.mono ?_
            rintro e w6 ⟨rfl, hb6⟩
            have hx6 := Lib.hid (hx5.out.step hb6)
            have hG6 := Lib.hid (hG3.out.below hb6)
            have hq := Fun_any _ _ _ (g.addF f) other _ hG6.out
            rw [hf2.out] at hq
            have hq' := Lib.hid hq
            obtain ⟨r0, r1, r2⟩ := bx3_cells hx6.out.left
            clear hb6 hq j0
            go_wp2_with fail
            clear r0 r1 r2
            refine hq'.out.mono ?_
            rintro e w7 ⟨rfl, hb7⟩
            have hx7 := Lib.hid (hx6.out.step hb7)
            have hG7 := Lib.hid (hG6.out.below hb7)
            have hq := Fun_any _ _ _ g other _ (hG'.out.below hx7.out.bel)
            rw [hf3.out] at hq
            have hq2 := Lib.hid hq
            obtain ⟨k0, k1, k2, k3, k4, k5, k6, k7, k8⟩ := fgbox_cells hx7.out.right
            clear hb7 hq hq' hG6 hx6 k0 k1 k2 k3 k4 k5
            go_wp2_with fail
            clear k6 k7 k8
            refine hq2.out.mono ?_
            rintro e w8 ⟨rfl, hb8⟩
            have hx8 := Lib.hid (hx7.out.step hb8)
            have hG8 := Lib.hid (hG7.out.below hb8)
            have hcut := Lib.hid (Cut_yes _ _ _ (g.addF f) g.ns g.nf g.nm _ hG8.out (few_addF hcg.out) hcg.out (Nat.le_refl _) (by show g.nf ≤ g.nf + 1; omega) (Nat.le_refl _) (hc0.out.congr (cut_addF g f).symm))
            obtain ⟨r0, r1, r2⟩ := bx3_cells hx8.out.left
            clear hb8 hq2 hG7 hx7
            go_wp2_with fail
            clear r0 r1 r2
            refine hcut.out.mono ?_
            rintro e w9 ⟨A3, FA3, MA3, rfl, hG9, hb9⟩
            have hx9 := Lib.hid ((hx8.out.step hb9).skip (.cells #[.slice A3 g.ns g.ns, .slice FA3 g.nf g.nf, .slice MA3 g.nm g.nm] 26))
            have hcg9 := Lib.hid ((hG8.out.below hb9).alloc (.cells #[.slice A3 g.ns g.ns, .slice FA3 g.nf g.nf, .slice MA3 g.nm g.nm] 26))
            have hsm := Lib.hid (Same_any _ _ _ _ _ _ g _ ((hG9.congr (cut_addF g f)).alloc (.cells #[.slice A3 g.ns g.ns, .slice FA3 g.nf g.nf, .slice MA3 g.nm g.nm] 26)) (hG'.out.below hx9.out.bel) ⟨hfw.out.ns, hfw.out.nf, hfw.out.nm⟩)
            obtain ⟨k0, k1, k2, k3, k4, k5, k6, k7, k8⟩ := fgbox_cells hx9.out.right
            clear hb9 hG9 hcut hG8 hx8 k1 k2 k3 k4 k5
            go_wp2_with fail
            refine hsm.out.mono ?_
            rintro e w10 ⟨rfl, hb10⟩
            have hx10 := Lib.hid (hx9.out.step hb10)
            have hch := SCheck_any _ _ _ (g.addF f) _ (hcg9.out.below hb10) (few_addF hcg.out)
            rw [(checkG_iff _).2 hcg.out] at hch
            have hch' := Lib.hid hch
            obtain ⟨r0, r1, r2⟩ := bx3_cells hx10.out.left
            have hb10' := hb10
            clear hb10 hsm hx9 hch k0 k6 k7 k8
            go_wp2_with fail
            clear r0 r1 r2
            refine hch'.out.mono ?_
            rintro e w11 ⟨rfl, hb11⟩
            have hx11 := Lib.hid (hx10.out.step hb11)
            have hfe := Free_any _ _ _ (g.addF f) f.name false _ ((hcg9.out.below hb10').below hb11) (few_addF hcg.out) hf'.out.name
            unfold chV
            obtain ⟨r0, r1, r2⟩ := bx3_cells hx11.out.left
            obtain ⟨k0, k1, k2, k3, k4, k5, k6, k7, k8⟩ := fgbox_cells hx11.out.right
            rw [hfr.out] at hfe
            have hfe' := Lib.hid hfe
            clear hb11 hx10 hch' hfe hb10' hcg9 k1 k2 k3 k4 k5 k6 k7 k8
            go_wp2_with fail
            refine hfe'.out.mono ?_
            rintro e w12 ⟨rfl, hb12⟩
            have hx12 := Lib.hid (hx11.out.step hb12)
            clear hb12 hx11 hfe' r0 r1 r2 k0
            go_wp2_with (go_at_call 11; (with_reducible refine (hwk.out _).mono ?_); rintro e w13 ⟨rfl, hb13⟩; have hx13 := Lib.hid (hx12.out.step hb13))
            go_ret
            exact ⟨rfl, hx13.out.bel⟩
          · have hE1 : (other.toList == f.name.toList) = false := eqS_ne he
            have hsame := grows_fother (g := g) he
            have hO : Hid (∀ v, findV (funI g other) = v → ∃ (m2 : Int) (q2 : Bool), v = .tuple #[.int .i64 m2, .bool q2]) := fun v h => ⟨_, _, h.symm.trans rfl⟩
            obtain ⟨m2, q2, h3⟩ := hO.out _ rfl
            have h2 : findV (funI (g.addF f) other) = .tuple #[.int .i64 m2, .bool q2] := by rw [hsame]; exact h3
            clear hO he hsame
            have hf2 := Lib.hid h2
            have hf3 := Lib.hid h3
            clear h2 h3
            go_wp2_with fail
            refine hS1'.out.mono ?_
            rintro e w6 ⟨rfl, hb6⟩
            have hx6 := Lib.hid (hx5.out.step hb6)
            have hG6 := Lib.hid (hG3.out.below hb6)
            have hq := Fun_any _ _ _ (g.addF f) other _ hG6.out
            rw [hf2.out] at hq
            have hq' := Lib.hid hq
            obtain ⟨r0, r1, r2⟩ := bx3_cells hx6.out.left
            clear hb6 hq j0
            go_wp2_with fail
            clear r0 r1 r2
            refine hq'.out.mono ?_
            rintro e w7 ⟨rfl, hb7⟩
            have hx7 := Lib.hid (hx6.out.step hb7)
            have hG7 := Lib.hid (hG6.out.below hb7)
            have hq := Fun_any _ _ _ g other _ (hG'.out.below hx7.out.bel)
            rw [hf3.out] at hq
            have hq2 := Lib.hid hq
            obtain ⟨k0, k1, k2, k3, k4, k5, k6, k7, k8⟩ := fgbox_cells hx7.out.right
            clear hb7 hq hq' hG6 hx6 k0 k1 k2 k3 k4 k5
            go_wp2_with fail
            clear k6 k7 k8
            refine hq2.out.mono ?_
            rintro e w8 ⟨rfl, hb8⟩
            have hx8 := Lib.hid (hx7.out.step hb8)
            have hG8 := Lib.hid (hG7.out.below hb8)
            have hcut := Lib.hid (Cut_yes _ _ _ (g.addF f) g.ns g.nf g.nm _ hG8.out (few_addF hcg.out) hcg.out (Nat.le_refl _) (by show g.nf ≤ g.nf + 1; omega) (Nat.le_refl _) (hc0.out.congr (cut_addF g f).symm))
            obtain ⟨r0, r1, r2⟩ := bx3_cells hx8.out.left
            clear hb8 hq2 hG7 hx7
            go_wp2_with fail
            clear r0 r1 r2
            refine hcut.out.mono ?_
            rintro e w9 ⟨A3, FA3, MA3, rfl, hG9, hb9⟩
            have hx9 := Lib.hid ((hx8.out.step hb9).skip (.cells #[.slice A3 g.ns g.ns, .slice FA3 g.nf g.nf, .slice MA3 g.nm g.nm] 26))
            have hcg9 := Lib.hid ((hG8.out.below hb9).alloc (.cells #[.slice A3 g.ns g.ns, .slice FA3 g.nf g.nf, .slice MA3 g.nm g.nm] 26))
            have hsm := Lib.hid (Same_any _ _ _ _ _ _ g _ ((hG9.congr (cut_addF g f)).alloc (.cells #[.slice A3 g.ns g.ns, .slice FA3 g.nf g.nf, .slice MA3 g.nm g.nm] 26)) (hG'.out.below hx9.out.bel) ⟨hfw.out.ns, hfw.out.nf, hfw.out.nm⟩)
            obtain ⟨k0, k1, k2, k3, k4, k5, k6, k7, k8⟩ := fgbox_cells hx9.out.right
            clear hb9 hG9 hcut hG8 hx8 k1 k2 k3 k4 k5
            go_wp2_with fail
            refine hsm.out.mono ?_
            rintro e w10 ⟨rfl, hb10⟩
            have hx10 := Lib.hid (hx9.out.step hb10)
            have hch := SCheck_any _ _ _ (g.addF f) _ (hcg9.out.below hb10) (few_addF hcg.out)
            rw [(checkG_iff _).2 hcg.out] at hch
            have hch' := Lib.hid hch
            obtain ⟨r0, r1, r2⟩ := bx3_cells hx10.out.left
            have hb10' := hb10
            clear hb10 hsm hx9 hch k0 k6 k7 k8
            go_wp2_with fail
            clear r0 r1 r2
            refine hch'.out.mono ?_
            rintro e w11 ⟨rfl, hb11⟩
            have hx11 := Lib.hid (hx10.out.step hb11)
            have hfe := Free_any _ _ _ (g.addF f) f.name false _ ((hcg9.out.below hb10').below hb11) (few_addF hcg.out) hf'.out.name
            unfold chV
            obtain ⟨r0, r1, r2⟩ := bx3_cells hx11.out.left
            obtain ⟨k0, k1, k2, k3, k4, k5, k6, k7, k8⟩ := fgbox_cells hx11.out.right
            rw [hfr.out] at hfe
            have hfe' := Lib.hid hfe
            clear hb11 hx10 hch' hfe hb10' hcg9 k1 k2 k3 k4 k5 k6 k7 k8
            go_wp2_with fail
            refine hfe'.out.mono ?_
            rintro e w12 ⟨rfl, hb12⟩
            have hx12 := Lib.hid (hx11.out.step hb12)
            clear hb12 hx11 hfe' r0 r1 r2 k0
            go_wp2_with (go_at_call 11; (with_reducible refine (hwk.out _).mono ?_); rintro e w13 ⟨rfl, hb13⟩; have hx13 := Lib.hid (hx12.out.step hb13))
            go_ret
            exact ⟨rfl, hx13.out.bel⟩
        · have d1 : (afI g f != 0) = true := by simpa using ha
          clear ha
          obtain ⟨k0, k1, k2, k3, k4, k5, k6, k7, k8⟩ := fgbox_cells hx5.out.right
          clear k0 k1 k2 k3 k4 k5
          go_wp2_with (go_at_call 11; (with_reducible refine (hwk.out _).mono ?_); rintro e w6 ⟨rfl, hb6⟩; have hx6 := Lib.hid (hx5.out.step hb6))
          go_ret
          exact ⟨rfl, hx6.out.bel⟩
end Go.Proofs.Ythkbekfdjfmmbaa
