/- The law SigTwice: the walk. -/
import Derived.Test.YthkbekfdjfmmbaaCutG
import Derived.Test.YthkbekfdjfmmbaaGreatG
import Derived.Test.YthkbekfdjfmmbaaWakes04
namespace Go.Proofs.Ythkbekfdjfmmbaa
open Go.RowKit
set_option maxRecDepth 100000

/-- What AddSort hands back. -/
def AddSP (g : Sg) (name : ByteArray) (e : Ending) (w' : World) : Prop := ∃ (A : Option Addr) (n c : Nat) (FA : Option Addr) (nf fc : Nat) (MA : Option Addr) (nm mc : Nat),
  e = .returned (.tuple #[.agg #[.slice A n c, .slice FA nf fc, .slice MA nm mc], .int .i64 (addI g name true true g.ns 4)]) ∧ (addI g name true true g.ns 4 = 0 → SgAt w' (.slice A n c) (.slice FA nf fc) (.slice MA nm mc) (g.addS name))
theorem AddSort_any (sv fv mv : Value) (g : Sg) (name : ByteArray) (w : World) (hG : SgAt w sv fv mv g) (hf : FewG g) (hn : StrR name) :
    Calls Try.prog 12 #[.agg #[sv, fv, mv], .string name] w fun e w' => AddSP g name e w' ∧ Below w.heap.size w w' := by
  by_cases h : addI g name true true g.ns 4 = 0
  · have hG0 := hG
    obtain ⟨FA, fc, rfl, _, _⟩ := hG.2.1
    obtain ⟨MA, mc, rfl, _, _⟩ := hG.2.2
    refine (AddSort_yes _ _ _ g name w hG0 hf hn h).mono fun e w' ⟨v', he, hg, hb⟩ => ⟨?_, hb⟩
    obtain ⟨A, c, rfl, _, _⟩ := hg.1
    exact ⟨A, _, c, FA, _, fc, MA, _, mc, by rw [he, h], fun _ => hg⟩
  · exact (AddSort_no sv fv mv g name w hG hf hn h).mono fun e w' ⟨he, hb⟩ => ⟨⟨none, 0, 0, none, 0, 0, none, 0, 0, he, fun h' => absurd h' h⟩, hb⟩
def AddFP (g : Sg) (f : Fn) (e : Ending) (w' : World) : Prop := ∃ (A : Option Addr) (n c : Nat) (FA : Option Addr) (nf fc : Nat) (MA : Option Addr) (nm mc : Nat),
  e = .returned (.tuple #[.agg #[.slice A n c, .slice FA nf fc, .slice MA nm mc], .int .i64 (afI g f)]) ∧ (afI g f = 0 → SgAt w' (.slice A n c) (.slice FA nf fc) (.slice MA nm mc) (g.addF f))
theorem AddFun_any (sv fv mv : Value) (g : Sg) (f : Fn) (w : World) (hG : SgAt w sv fv mv g) (hf : FewG g) (hn : FnR f) :
    Calls Try.prog 14 #[.agg #[sv, fv, mv], .agg #[.string f.name, .int .i64 f.len, .int .i64 f.a0, .int .i64 f.a1, .int .i64 f.a2, .int .i64 f.res]] w fun e w' => AddFP g f e w' ∧ Below w.heap.size w w' := by
  by_cases h : afI g f = 0
  · have hG0 := hG
    obtain ⟨A, c, rfl, _, _⟩ := hG.1
    obtain ⟨MA, mc, rfl, _, _⟩ := hG.2.2
    refine (AddFun_yes _ _ _ g f w hG0 hf hn h).mono fun e w' ⟨v', he, hg, hb⟩ => ⟨?_, hb⟩
    obtain ⟨FA, fc, rfl, _, _⟩ := hg.2.1
    exact ⟨A, _, c, FA, _, fc, MA, _, mc, by rw [he, h], fun _ => hg⟩
  · exact (AddFun_no sv fv mv g f w hG hf hn h).mono fun e w' ⟨he, hb⟩ => ⟨⟨none, 0, 0, none, 0, 0, none, 0, 0, he, fun h' => absurd h' h⟩, hb⟩
set_option maxHeartbeats 8000000 in
theorem SigTwice_any (sv fv mv : Value) (g : Sg) (f : Fn) (name : ByteArray) (w : World) (hG : SgAt w sv fv mv g) (hf : FnR f) (hn : StrR name) :
    Calls Try.prog 3 #[.agg #[sv, fv, mv], fnV f, .string name] w fun e w' => e = .returned (.bool true) ∧ Below w.heap.size w w' := by
  have hx0 := Lib.hid (fgbox_bx w sv fv mv f)
  have hwk := Lib.hid wakes04_any
  have hG' := Lib.hid hG
  have hf' := Lib.hid hf
  have hn' := Lib.hid hn
  obtain ⟨A, c, rfl, -, -⟩ := hG.1
  obtain ⟨FA, fc, rfl, -, -⟩ := hG.2.1
  obtain ⟨MA, mc, rfl, -, -⟩ := hG.2.2
  clear hG hf hn
  unfold fnV
  go_enter Try.func3, Try.ntmps3
  go_wp2_with fail
  refine (Great_any _ _ _ g _ (hG'.out.below hx0.out.bel)).mono ?_
  rintro e w1 ⟨⟨bb, rfl, hfew⟩, hb1⟩
  have hx1 := Lib.hid (hx0.out.step hb1)
  have hfew' := Lib.hid hfew
  clear hb1 hx0 hfew
  cases bb with
  | true =>
    go_wp2_with (go_at_call 11; (with_reducible refine (hwk.out _).mono ?_); rintro e w2 ⟨rfl, hb2⟩; have hx2 := Lib.hid (hx1.out.step hb2))
    go_ret
    exact ⟨rfl, hx2.out.bel⟩
  | false =>
    have hfw := Lib.hid (hfew'.out rfl)
    have q1 := fgbox_cells hx1.out
    unfold fgCells at q1
    obtain ⟨k0, k1, k2, k3, k4, k5, k6, k7, k8⟩ := q1
    clear hfew'
    by_cases hlen : 600 < wrap64 (f.name.size + name.size)
    · have d0 : decide (600 < wrap64 (f.name.size + name.size)) = true := decide_eq_true hlen
      clear hlen
      go_wp2_with (go_at_call 11; (with_reducible refine (hwk.out _).mono ?_); rintro e w2 ⟨rfl, hb2⟩; have hx2 := Lib.hid (hx1.out.step hb2))
      go_ret
      exact ⟨rfl, hx2.out.bel⟩
    · have d0 : decide (600 < wrap64 (f.name.size + name.size)) = false := decide_eq_false hlen
      clear hlen
      go_wp2_with fail
      refine (AddSort_any _ _ _ g name _ (hG'.out.below hx1.out.bel) hfw.out hn'.out).mono ?_
      rintro e w2 ⟨⟨A1, n1, c1, FA1, nf1, fc1, MA1, nm1, mc1, rfl, hG1⟩, hb2⟩
      have hx2 := Lib.hid ((hx1.out.step hb2).three (.slice A1 n1 c1) (.slice FA1 nf1 fc1) (.slice MA1 nm1 mc1) 26)
      have hG1' := Lib.hid hG1
      clear hb2 hG1 k0 k1 k2 k3 k4 k5 k6 k7 k8 hx1
      go_upto_if 35 with fail
      go_cut [9, 10] from 28 to 52 (fun _ _ y => Hid (Bx w (fgbox w (.slice A g.ns c) (.slice FA g.nf fc) (.slice MA g.nm mc) f) y))
      case first =>
        by_cases ha : addI g name true true g.ns 4 = 0
        · have hG2 := Lib.hid (hG1'.out ha)
          have htw := Lib.hid (twice_sort ha)
          have hcg := Lib.hid ((addI_zero ha).1.addS (addI_zero ha).2.1 (addI_zero ha).2.2.2)
          have d1 : (addI g name true true g.ns 4 == 0) = true := by simpa using ha
          clear ha
          obtain ⟨k0, k1, k2, k3, k4, k5, k6, k7, k8⟩ := fgbox_cells hx2.out.right
          clear k0 k1 k2 k3 k4 k5
          go_wp2_with fail
          refine (AddSort_no _ _ _ (g.addS name) name _ (hG2.out.alloc _) (few_addS hcg.out) hn'.out (by rw [htw.out]; decide)).mono ?_
          rintro e w3 ⟨rfl, hb3⟩
          rw [htw.out]
          unfold sigZ
          obtain ⟨W4, hW4⟩ : ∃ W4, W4 = w3.alloc (.cells #[.slice none 0 0, .slice none 0 0, .slice none 0 0] 26) := ⟨_, rfl⟩
          have hx4 : Bx w (bx3 w2.heap.size (.slice A1 n1 c1) (.slice FA1 nf1 fc1) (.slice MA1 nm1 mc1) ++ fgbox w (.slice A g.ns c) (.slice FA g.nf fc) (.slice MA g.nm mc) f) W4 := by rw [hW4]; exact (hx2.out.step hb3).skip _
          have hGo : SgAt W4 (.slice A1 n1 c1) (.slice FA1 nf1 fc1) (.slice MA1 nm1 mc1) (g.addS name) := by rw [hW4]; exact ((hG2.out.alloc _).below hb3).alloc _
          have hFo := Lib.hid fun x (hb : Below W4.heap.size W4 x) => Free_any _ _ _ (g.addS name) name false x (hGo.below hb) (few_addS hcg.out) hn'.out
          have hFg := Lib.hid fun x (hb : Below W4.heap.size W4 x) => Free_any _ _ _ g name false x ((hG'.out.below hx4.bel).below hb) hfw.out hn'.out
          rw [show freeI (g.addS name) name false = freeI g name false from rfl] at hFo
          have hKp : ∀ {x : World}, Below W4.heap.size W4 x → (x.cell? ⟨w2.heap.size, 0, none⟩ = some (.slice A1 n1 c1) ∧ x.cell? ⟨w2.heap.size, 1, none⟩ = some (.slice FA1 nf1 fc1) ∧ x.cell? ⟨w2.heap.size, 2, none⟩ = some (.slice MA1 nm1 mc1) ∧
              x.cell? ⟨w.heap.size, 0, none⟩ = some (.slice A g.ns c) ∧ x.cell? ⟨w.heap.size, 1, none⟩ = some (.slice FA g.nf fc) ∧ x.cell? ⟨w.heap.size, 2, none⟩ = some (.slice MA g.nm mc)) := fun hb => by
            have h1 := bx3_cells (hx4.step hb).left
            have h2 := fgbox_cells (hx4.step hb).right
            exact ⟨h1.1, h1.2.1, h1.2.2, h2.2.2.2.2.2.2⟩
          have hb0 : Below W4.heap.size W4 W4.drew := (Below.refl _ _).drew
          have hx4' := Lib.hid hx4
          have hW4' := Lib.hid hW4
          clear hW4 hb3 hx4 hGo k6 k7 k8
          generalize freeI g name false = fr at *
          go_wp2_with fail
          rw [← hW4'.out]
          go_region_held3 (fun x => x.cell? ⟨w2.heap.size, 0, none⟩ = some (.slice A1 n1 c1) ∧ x.cell? ⟨w2.heap.size, 1, none⟩ = some (.slice FA1 nf1 fc1) ∧ x.cell? ⟨w2.heap.size, 2, none⟩ = some (.slice MA1 nm1 mc1) ∧
              x.cell? ⟨w.heap.size, 0, none⟩ = some (.slice A g.ns c) ∧ x.cell? ⟨w.heap.size, 1, none⟩ = some (.slice FA g.nf fc) ∧ x.cell? ⟨w.heap.size, 2, none⟩ = some (.slice MA g.nm mc))
            (first | exact hKp hb0 | exact hKp hb7 | exact hKp hb8 | exact hKp hb9 | exact hKp hb10 | fail)
            (first | (go_at_call 13; (with_reducible refine (hFo.out _ hb0).mono ?_); rintro e w7 ⟨rfl, hb7⟩; replace hb7 := hb0.trans hb7) | (go_at_call 13; (with_reducible refine (hFg.out _ hb7).mono ?_); rintro e w8 ⟨rfl, hb8⟩; replace hb8 := hb7.trans (hb8.mono hb7.size)) | (go_at_call 13; (with_reducible refine (hFg.out _ hb0).mono ?_); rintro e w9 ⟨rfl, hb9⟩; replace hb9 := hb0.trans hb9) | (go_at_call 13; (with_reducible refine (hFo.out _ hb9).mono ?_); rintro e w10 ⟨rfl, hb10⟩; replace hb10 := hb9.trans (hb10.mono hb9.size)) | fail)
          all_goals go_wp2_with fail
          all_goals go_meet
          all_goals first | exact (hx4'.out.step hb8).right | exact (hx4'.out.step hb10).right
        · have d1 : (addI g name true true g.ns 4 == 0) = false := by simpa using ha
          clear ha
          go_wp2_with fail
          go_meet
          exact hx2.out.right
      case rest =>
        have hx4 := hcut
        clear hx2 hG1' hcut
        obtain ⟨k0, k1, k2, k3, k4, k5, k6, k7, k8⟩ := fgbox_cells hx4.out
        go_wp2_with fail
        refine (AddFun_any _ _ _ g f _ (hG'.out.below hx4.out.bel) hfw.out hf'.out).mono ?_
        rintro e w5 ⟨⟨A2, n2, c2, FA2, nf2, fc2, MA2, nm2, mc2, rfl, hG2⟩, hb5⟩
        have hx5 := Lib.hid ((hx4.out.step hb5).three (.slice A2 n2 c2) (.slice FA2 nf2 fc2) (.slice MA2 nm2 mc2) 26)
        have hG2' := Lib.hid hG2
        clear hb5 hG2 k0 k1 k2 k3 k4 k5 k6 k7 k8 hx4
        by_cases ha : afI g f = 0
        · have hG3 := Lib.hid (hG2'.out ha)
          obtain ⟨ht1, ht2⟩ := twice_fun ha
          have ht1' := Lib.hid ht1
          have ht2' := Lib.hid ht2
          have hcg := Lib.hid ((addI_zero ha).1.addF (addI_zero ha).2.1 (addI_zero ha).2.2.1 (addI_zero ha).2.2.2)
          have d1 : (afI g f != 0) = false := by simpa using ha
          clear ha ht1 ht2
          obtain ⟨j0, j1, j2, j3, j4, j5, j6, j7, j8⟩ := fgbox_cells hx5.out.right
          clear j6 j7 j8
          go_wp2_with fail
          refine (AddFun_no _ _ _ (g.addF f) f _ (hG3.out.alloc _) (few_addF hcg.out) hf'.out (by rw [ht1'.out]; decide)).mono ?_
          rintro e w6 ⟨rfl, hb6⟩
          rw [ht1'.out]
          unfold sigZ
          have hx6 := Lib.hid ((hx5.out.step hb6).skip (.cells #[.slice none 0 0, .slice none 0 0, .slice none 0 0] 26))
          have hG6 := Lib.hid (((hG3.out.alloc (.cells #[.slice A2 n2 c2, .slice FA2 nf2 fc2, .slice MA2 nm2 mc2] 26)).below hb6).alloc (.cells #[.slice none 0 0, .slice none 0 0, .slice none 0 0] 26))
          clear hb6 j0 j1 j2 j3 j4 j5
          obtain ⟨j0, j1, j2, j3, j4, j5, j6, j7, j8⟩ := fgbox_cells hx6.out.right
          obtain ⟨r0, r1, r2⟩ := bx3_cells hx6.out.left
          clear j1 j2 j3 j4 j5 j6 j7 j8
          have hMc : ∀ x : World, McIs x ⟨f.name, 0, fun _ => ⟨ByteArray.empty, 0⟩, 0, .mk 0 ⟨#[116, 114, 117, 101]⟩ 0 fun _ => .nil⟩ (.string f.name) (.slice none 0 0) (.int .i64 0) (.int .i8 0) (.string ⟨#[116, 114, 117, 101]⟩) (.slice none 0 0) := fun x =>
            ⟨rfl, hf'.out.name, RowAt.nil _ _ _, rfl, (⟨by decide, by decide⟩ : R64 0), SxIs.mk ⟨by decide, by decide⟩ (by unfold StrR; decide) (RowAt.nil _ _ _)⟩
          have ham := ht2'.out ⟨f.name, 0, fun _ => ⟨ByteArray.empty, 0⟩, 0, .mk 0 ⟨#[116, 114, 117, 101]⟩ 0 fun _ => .nil⟩ rfl
          have hAM := Lib.hid (AddMacro_no _ _ _ (g.addF f) _ _ _ _ _ _ _ _ hG6.out (few_addF hcg.out) (hMc _) (by rw [ham]; decide))
          rw [ham] at hAM
          clear ham hMc
          unfold sigZ at hAM
          go_wp2_with fail
          refine hAM.out.mono ?_
          rintro e w7 ⟨rfl, hb7⟩
          obtain ⟨W8, hW8⟩ : ∃ W8, W8 = w7.alloc (.cells #[.slice none 0 0, .slice none 0 0, .slice none 0 0] 26) := ⟨_, rfl⟩
          have hx8 : Bx w (bx3 w5.heap.size (.slice A2 n2 c2) (.slice FA2 nf2 fc2) (.slice MA2 nm2 mc2) ++ fgbox w (.slice A g.ns c) (.slice FA g.nf fc) (.slice MA g.nm mc) f) W8 := by rw [hW8]; exact (hx6.out.step hb7).skip _
          have hGp : SgAt W8 (.slice A2 n2 c2) (.slice FA2 nf2 fc2) (.slice MA2 nm2 mc2) (g.addF f) := by rw [hW8]; exact (hG6.out.below hb7).alloc _
          have hFo := Lib.hid fun x (hb : Below W8.heap.size W8 x) => Free_any _ _ _ (g.addF f) f.name true x (hGp.below hb) (few_addF hcg.out) hf'.out.name
          have hFg := Lib.hid fun x (hb : Below W8.heap.size W8 x) => Free_any _ _ _ g f.name true x ((hG'.out.below hx8.bel).below hb) hfw.out hf'.out.name
          rw [show freeI (g.addF f) f.name true = freeI g f.name true from rfl] at hFo
          have hKp : ∀ {x : World}, Below W8.heap.size W8 x → (x.cell? ⟨w5.heap.size, 0, none⟩ = some (.slice A2 n2 c2) ∧ x.cell? ⟨w5.heap.size, 1, none⟩ = some (.slice FA2 nf2 fc2) ∧ x.cell? ⟨w5.heap.size, 2, none⟩ = some (.slice MA2 nm2 mc2) ∧ x.cell? ⟨w.heap.size + 1, 0, none⟩ = some (.string f.name) ∧
              x.cell? ⟨w.heap.size, 0, none⟩ = some (.slice A g.ns c) ∧ x.cell? ⟨w.heap.size, 1, none⟩ = some (.slice FA g.nf fc) ∧ x.cell? ⟨w.heap.size, 2, none⟩ = some (.slice MA g.nm mc)) := fun hb => by
            have h1 := bx3_cells (hx8.step hb).left
            have h2 := fgbox_cells (hx8.step hb).right
            exact ⟨h1.1, h1.2.1, h1.2.2, h2.1, h2.2.2.2.2.2.2⟩
          have hb0 : Below W8.heap.size W8 W8.drew := (Below.refl _ _).drew
          have hx8' := Lib.hid hx8
          have hW8' := Lib.hid hW8
          clear hW8 hb7 hx8 hGp j0 r0 r1 r2
          generalize freeI g f.name true = fr at *
          go_wp2_with fail
          rw [← hW8'.out]
          go_region_held3 (fun x => x.cell? ⟨w5.heap.size, 0, none⟩ = some (.slice A2 n2 c2) ∧ x.cell? ⟨w5.heap.size, 1, none⟩ = some (.slice FA2 nf2 fc2) ∧ x.cell? ⟨w5.heap.size, 2, none⟩ = some (.slice MA2 nm2 mc2) ∧ x.cell? ⟨w.heap.size + 1, 0, none⟩ = some (.string f.name) ∧
              x.cell? ⟨w.heap.size, 0, none⟩ = some (.slice A g.ns c) ∧ x.cell? ⟨w.heap.size, 1, none⟩ = some (.slice FA g.nf fc) ∧ x.cell? ⟨w.heap.size, 2, none⟩ = some (.slice MA g.nm mc))
            (first | exact hKp hb0 | exact hKp hb7 | exact hKp hb8 | exact hKp hb9 | exact hKp hb10 | exact hKp hb11 | exact hKp hb12 | fail)
            (first | (go_at_call 13; (with_reducible refine (hFo.out _ hb0).mono ?_); rintro e w7 ⟨rfl, hb7⟩; replace hb7 := hb0.trans hb7) | (go_at_call 13; (with_reducible refine (hFg.out _ hb7).mono ?_); rintro e w8 ⟨rfl, hb8⟩; replace hb8 := hb7.trans (hb8.mono hb7.size)) | (go_at_call 13; (with_reducible refine (hFg.out _ hb0).mono ?_); rintro e w9 ⟨rfl, hb9⟩; replace hb9 := hb0.trans hb9) | (go_at_call 13; (with_reducible refine (hFo.out _ hb9).mono ?_); rintro e w10 ⟨rfl, hb10⟩; replace hb10 := hb9.trans (hb10.mono hb9.size)) | (go_at_call 11; (with_reducible refine (hwk.out w8).mono ?_); rintro e w11 ⟨rfl, hb11⟩; replace hb11 := hb8.trans (hb11.mono hb8.size)) | (go_at_call 11; (with_reducible refine (hwk.out w10).mono ?_); rintro e w12 ⟨rfl, hb12⟩; replace hb12 := hb10.trans (hb12.mono hb10.size)) | fail)
          all_goals go_wp2_with fail
          all_goals go_ret
          all_goals first | exact ⟨rfl, (hx8'.out.step hb11).bel⟩ | exact ⟨rfl, (hx8'.out.step hb12).bel⟩
        · have d1 : (afI g f != 0) = true := by simpa using ha
          clear ha
          go_wp2_with (go_at_call 11; (with_reducible refine (hwk.out _).mono ?_); rintro e w6 ⟨rfl, hb6⟩; have hx6 := Lib.hid (hx5.out.step hb6))
          go_ret
          exact ⟨rfl, hx6.out.bel⟩
end Go.Proofs.Ythkbekfdjfmmbaa
