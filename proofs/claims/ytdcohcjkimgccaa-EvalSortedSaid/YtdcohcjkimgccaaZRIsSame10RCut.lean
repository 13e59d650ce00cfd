/- gantryref09.Is. -/
import Derived.Test.YtdcohcjkimgccaaZValAValB
import Derived.Test.YtdcohcjkimgccaaZBoxes
import Derived.BigQuiet
import Derived.Test.YtdcohcjkimgccaaZRPut
import Derived.Test.YtdcohcjkimgccaaZSetBox
namespace Go.Proofs.Ytdcohcjkimgccaa
open Go.RowKit
set_option maxRecDepth 100000

set_option maxHeartbeats 4000000 in
theorem RIs_any (A FA MA ZA WA : Option Addr) (ns nf nm nz nw c fc mc zc wc : Nat) (W : Wd) (s v : Int) (w : World) (hz : W.nz = nz) (hZ : IntsAt w (.slice ZA nz zc) nz W.Z) (hn : nz ≤ 1000000) (hs : R64 s) (hv : R64 v) :
    Calls Try.prog 27 #[.agg #[.slice A ns c, .slice FA nf fc, .slice MA nm mc], .agg #[.slice ZA nz zc, .slice WA nw wc], .int .i64 s, .int .i64 v] w fun e w' => e = .returned (.bool (isB ns W s v)) ∧ Below w.heap.size w w' := by
  subst hz
  have hx := Lib.hid (isK_bx w (.slice A ns c) (.slice FA nf fc) (.slice MA nm mc) (.slice ZA W.nz zc) (.slice WA nw wc))
  have hZ' := Lib.hid (hZ.below hx.out.bel)
  have hR : Hid (isB ns W s v = if W.nz ≠ ns then false else if s < 0 then false else if (W.nz : Int) + 2 ≤ s then false else if s = 0 then decide (0 ≤ v ∧ v ≤ 1) else if s = 1 then mayB v else decide (0 ≤ v ∧ v < W.Z (s - 2).toNat)) := rfl
  have hv' := Lib.hid hv
  clear hv hZ
  go_enter Try.func27, Try.ntmps27
  by_cases h1 : W.nz = ns
  case neg =>
    have d1 : ((W.nz : Int) != (ns : Int)) = true := by simpa using fun h => h1 (by omega)
    have hF : Hid (isB ns W s v = false) := by unfold Hid; rw [hR.out, if_pos h1]
    clear h1 hR
    go_wp2_with fail
    go_ret
    exact ⟨by rw [hF.out]; rfl, hx.out.bel⟩
  subst h1
  have d1 : ((W.nz : Int) != (W.nz : Int)) = false := by simp
  have hR1 : Hid (isB W.nz W s v = if s < 0 then false else if (W.nz : Int) + 2 ≤ s then false else if s = 0 then decide (0 ≤ v ∧ v ≤ 1) else if s = 1 then mayB v else decide (0 ≤ v ∧ v < W.Z (s - 2).toNat)) := by unfold Hid; rw [hR.out, if_neg (fun h => h rfl)]
  clear hR
  by_cases h2 : s < 0
  · have d2 : decide (s < 0) = true := decide_eq_true h2
    have hF : Hid (isB W.nz W s v = false) := by unfold Hid; rw [hR1.out, if_pos h2]
    clear h2
    go_wp2_with fail
    go_ret
    exact ⟨by rw [hF.out]; rfl, hx.out.bel⟩
  have d2 : decide (s < 0) = false := decide_eq_false h2
  by_cases h3 : (W.nz : Int) + 2 ≤ s
  · have d3 : decide (2 + (W.nz : Int) ≤ s) = true := decide_eq_true (by omega)
    have hF : Hid (isB W.nz W s v = false) := by unfold Hid; rw [hR1.out, if_neg h2, if_pos h3]
    clear h2 h3
    go_wp2_with fail
    go_ret
    exact ⟨by rw [hF.out]; rfl, hx.out.bel⟩
  have d3 : decide (2 + (W.nz : Int) ≤ s) = false := decide_eq_false (by omega)
  have hR2 : Hid (isB W.nz W s v = if s = 0 then decide (0 ≤ v ∧ v ≤ 1) else if s = 1 then mayB v else decide (0 ≤ v ∧ v < W.Z (s - 2).toNat)) := by unfold Hid; rw [hR1.out, if_neg h2, if_neg h3]
  clear hR1
  by_cases e0 : s = 0
  · subst e0
    have hF : Hid (isB W.nz W 0 v = (v == 0 || v == 1)) := by
      unfold Hid
      rw [hR2.out, if_pos rfl, Bool.eq_iff_iff]
      simp
      omega
    clear hR2 h2 h3
    by_cases v0 : v = 0
    · subst v0
      go_wp2_with fail
      go_ret
      exact ⟨by rw [hF.out]; rfl, hx.out.bel⟩
    · have d4 : (v == 0) = false := by simpa using v0
      rw [d4, Bool.false_or] at hF
      clear v0
      by_cases v1 : v = 1
      · subst v1
        go_wp2_with fail
        go_ret
        exact ⟨by rw [hF.out]; rfl, hx.out.bel⟩
      · have d5 : (v == 1) = false := by simpa using v1
        rw [d5] at hF
        clear v1
        go_wp2_with fail
        go_ret
        exact ⟨by rw [hF.out]; simp, hx.out.bel⟩
  by_cases e1 : s = 1
  · subst e1
    have hF : Hid (isB W.nz W 1 v = mayB v) := by unfold Hid; rw [hR2.out, if_neg (by decide), if_pos rfl]
    have hm := Lib.hid fun (x : World) => RMay_any v x hv'.out.1 hv'.out.2
    clear hR2 h2 h3 e0
    go_wp2_with fail
    refine (hm.out _).mono ?_
    rintro e w1 ⟨rfl, rfl⟩
    go_wp2_with fail
    go_ret
    exact ⟨by rw [hF.out]; rfl, hx.out.bel⟩
  obtain ⟨j, rfl⟩ : ∃ j : Nat, s = (j : Int) + 2 := ⟨(s - 2).toNat, by omega⟩
  have hj : j < W.nz := by omega
  have hF : Hid (isB W.nz W ((j : Int) + 2) v = decide (0 ≤ v ∧ v < W.Z j)) := by
    unfold Hid; rw [hR2.out, if_neg e0, if_neg e1, show ((j : Int) + 2 - 2).toNat = j by omega]
  obtain ⟨b, o, rfl, hb, hc⟩ : ∃ b o, ZA = some ⟨b, o, none⟩ ∧ b < _ ∧ ∀ i, i < W.nz → _ := by
    obtain ⟨A', c', he, _, _, hc⟩ := hZ'.out
    injection he with he1 _ _
    subst he1
    exact hc (by omega)
  have r := hc j hj
  have d4 : ((j : Int) + 2 == 0) = false := by simp; omega
  have d5 : ((j : Int) + 2 == 1) = false := by simp; omega
  clear hR2 e0 e1 h2 h3 hc hZ'
  by_cases v0 : 0 ≤ v
  · have d6 : decide (0 ≤ v) = true := decide_eq_true v0
    have hF' : Hid (isB W.nz W ((j : Int) + 2) v = decide (v < W.Z j)) := by unfold Hid; rw [hF.out, Bool.eq_iff_iff]; simp [v0]
    clear hF v0
    go_wp2_with fail
    go_ret
    exact ⟨by rw [hF'.out]; rfl, hx.out.bel⟩
  · have d6 : decide (0 ≤ v) = false := decide_eq_false v0
    have hF' : Hid (isB W.nz W ((j : Int) + 2) v = false) := by unfold Hid; rw [hF.out]; simp [v0]
    clear hF v0
    go_wp2_with fail
    go_ret
    exact ⟨by rw [hF'.out]; rfl, hx.out.bel⟩
end Go.Proofs.Ytdcohcjkimgccaa

namespace Go.Proofs.Ytdcohcjkimgccaa
open Go.RowKit
set_option maxRecDepth 100000

theorem Same10_yes (u v : Value) (n : Nat) (f h : Nat → Int) (w : World) (hu : IntsAt w u n f) (hv : IntsAt w v n h) (hfh : ∀ i, i < n → f i = h i) (hn : n ≤ 1000000) :
    Calls Try.prog 29 #[u, v] w fun e w' => e = .returned (.bool true) ∧ Below w.heap.size w w' := by
  obtain ⟨A, c, rfl, _, _, hcs⟩ := hu
  obtain ⟨A2, c2, rfl, _, _, hcs2⟩ := hv
  have hcs' := Lib.hid hcs
  have hcs2' := Lib.hid hcs2
  have hfh' := Lib.hid hfh
  have hd : ((n : Int) != (n : Int)) = false := by simp
  clear hcs hcs2 hfh
  go_enter Try.func29, Try.ntmps29
  go_wp2_with fail
  go_loopw [5] (fun i wr => ∃ j : Nat, j ≤ n ∧ i = .int .i64 j ∧ Hid (Bx w [] wr)) (fun i _ => n - (intOf i).toNat)
  case atStart => exact ⟨0, Nat.zero_le _, rfl, Bx.nil w⟩
  case round =>
    obtain ⟨j, hj, rfl, hx⟩ := hrel
    by_cases hlt : j < n
    · have i1 : decide ((j : Int) < (n : Int)) = true := decide_eq_true (by omega)
      obtain ⟨b, o, rfl, hbl, hc⟩ := hcs'.out (by omega)
      obtain ⟨b2, o2, rfl, hbl2, hc2⟩ := hcs2'.out (by omega)
      have r1 := (hx.out.bel.cell (p := ⟨b, o + j, none⟩) hbl).trans (hc j hlt)
      have r2 := (hx.out.bel.cell (p := ⟨b2, o2 + j, none⟩) hbl2).trans (hc2 j hlt)
      rw [← hfh'.out j hlt] at r2
      have hb : b < wr.heap.size := Nat.lt_of_lt_of_le hbl hx.out.bel.size
      have hb2 : b2 < wr.heap.size := Nat.lt_of_lt_of_le hbl2 hx.out.bel.size
      have hq : (f j != f j) = false := by simp
      clear hc hc2
      go_wp2_with fail
      go_quiet (fail)
      go_wp2_with fail
      go_roundw
      case rel => exact ⟨j + 1, by omega, by go_num, hx.out.drewN _⟩
      case measure => simp [intOf]; omega
    · have i1 : decide ((j : Int) < (n : Int)) = false := decide_eq_false (by omega)
      go_wp2_with fail
      go_ret
      exact ⟨rfl, hx.out.bel⟩
end Go.Proofs.Ytdcohcjkimgccaa

namespace Go.Proofs.Ytdcohcjkimgccaa
open Go.RowKit Go.Maps
set_option maxRecDepth 100000

def cutK (w : World) (v : Value) : List (Nat × Nat × Value) := [(w.heap.size + 1, 0, .slice none 0 0), (w.heap.size, 0, v)]
theorem cutK_bx (w : World) (v : Value) : Bx w (cutK w v) ((w.alloc (.cells #[v] 24)).alloc (.cells #[.slice none 0 0] 24)) := by
  have h := ((Bx.nil w).row #[v] 24).row #[.slice none 0 0] 24
  simp only [rowK, World.size_alloc, List.append_nil, List.cons_append, List.nil_append] at h
  exact h
set_option maxHeartbeats 1000000 in
theorem RCut_yes (v : Value) (n : Nat) (N : Nat → Nd) (j : Nat) (w : World) (hv : NdsAt w v n N) (hn : n ≤ 1000000) (hch : CheckP n N) (h2 : 2 ≤ j) (hj : j ≤ n) :
    Calls Try.prog 28 #[.agg #[v], .int .i64 j] w fun x w' => (∃ v', x = .returned (.tuple #[.agg #[v'], .int .i64 0]) ∧ NdsAt w' v' j N) ∧ Below w.heap.size w w' := by
  have hv' := Lib.hid hv
  have hr := Lib.hid hv.ranges
  obtain ⟨A, c, rfl, ⟨hc0, hc1⟩, _, _⟩ := hv
  have hx0 := Lib.hid (cutK_bx w (.slice A n c))
  have f0 := Lib.hid (show ((w.alloc (.cells #[.slice A n c] 24)).alloc (.cells #[.slice none 0 0] 24)).frozen? ⟨w.heap.size + 1, 0, none⟩ = false by simp)
  have hCh := Lib.hid (RCheck_any _ n N _ (hv'.out.below hx0.out.bel) hn)
  rw [check_yes hch] at hCh
  have hd0 : decide ((j : Int) < 2) = false := decide_eq_false (by omega)
  have hd1 : decide ((n : Int) < (j : Int)) = false := decide_eq_false (by omega)
  have hd2 : decide (n < j) = false := decide_eq_false (by omega)
  clear hch
  go_enter Try.func28, Try.ntmps28
  go_wp2_with fail
  refine hCh.out.mono ?_
  rintro x w2 ⟨rfl, hb2⟩
  have hx2 := Lib.hid (hx0.out.step hb2)
  have f2 : w2.frozen? ⟨w.heap.size + 1, 0, none⟩ = false := (hb2.frozen (p := ⟨w.heap.size + 1, 0, none⟩) (by simp)).trans f0.out
  have hsz := hb2.size
  simp only [World.size_alloc] at hsz
  obtain ⟨⟨k1, -⟩, ⟨k0, -⟩, -⟩ := hx2.out.cells
  have hown0 := Lib.hid (OwnG.nil w2 w2.heap.size 39 8 (fun i => ndC (N i)))
  have hsrc := Lib.hid ((hv'.out.pre (k := j) (by omega) c (by omega)).below hx2.out.bel)
  clear hb2 hCh hx0 f0
  go_wp2_with (at_builtin; refine wpList_appN rfl _ _ rfl w2.heap.size _ 0 N rfl hown0.out _ j N rfl hsrc.out (by omega) (Nat.le_refl _) ?_)
  intro v5 w5 hown5 hb5
  have hown5' : Hid (OwnN w5 w2.heap.size v5 j N) := OwnG.congr hown5 fun i _ => rfl
  obtain ⟨g5, c5, rfl, hg5, _⟩ := World.ownsRow.form hown5'.out (by omega : 0 < j)
  have hx5 := Lib.hid (hx2.out.step hb5)
  have f5 : w5.frozen? ⟨w.heap.size + 1, 0, none⟩ = false := (hb5.frozen (p := ⟨w.heap.size + 1, 0, none⟩) (by show w.heap.size + 1 < w2.heap.size; omega)).trans f2
  have hN5 := Lib.hid (OwnN.at_ hown5'.out fun i hi => hr.out i (by omega))
  clear hown5 hown0 hsrc hb5 k0 k1 f2
  obtain ⟨⟨k1, -⟩, ⟨k0, -⟩, -⟩ := hx5.out.cells
  go_wp2_with fail
  have hbs : Below w.heap.size w (w5.setCell ⟨w.heap.size + 1, 0, none⟩ (.slice (some ⟨g5, 0, none⟩) j c5)) := hx5.out.bel.setCell (by show w.heap.size ≤ w.heap.size + 1; omega) _
  exact bodyPost_ret (results_tab1 rfl _ _ (w.heap.size + 1) (.slice (some ⟨g5, 0, none⟩) j c5) rfl (World.cell?_setCell_same' _ _ _ (by rw [k1]; rfl))) rfl ⟨⟨_, rfl, hN5.out.setBox k1 (fun _ _ h => by cases h) _⟩, hbs⟩
end Go.Proofs.Ytdcohcjkimgccaa
