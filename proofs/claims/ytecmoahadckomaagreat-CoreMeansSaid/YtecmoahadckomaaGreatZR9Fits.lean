/- gantryref09.fits. -/
import Derived.Test.YtecmoahadckomaaGreatZValWToGreatW12
import Derived.Test.YtecmoahadckomaaGreatZClsW
import Derived.Deep.QuietTactic
import Derived.BigQuiet
import Derived.Deep.Cut
namespace Go.Proofs.YtecmoahadckomaaGreat
open Go.RowKit
set_option maxRecDepth 100000

def fzK (b : Nat) (f : Fn) : List (Nat × Nat × Value) := rowK b [.string f.name, .int .i64 f.len, .int .i64 f.a0, .int .i64 f.a1, .int .i64 f.a2, .int .i64 f.res] 0
def f9K (w : World) (sv fv mv zv wv : Value) (f : Fn) (x y z : Int) : List (Nat × Nat × Value) := rowK (w.heap.size + 3) [.int .i64 x, .int .i64 y, .int .i64 z] 0 ++ (fzK (w.heap.size + 2) f ++ isK w sv fv mv zv wv)
theorem f9K_bx (w : World) (sv fv mv zv wv : Value) (f : Fn) (x y z : Int) : Bx w (f9K w sv fv mv zv wv f x y z) ((((w.alloc (.cells #[sv, fv, mv] 26)).alloc (.cells #[zv, wv] 30)).alloc (.cells #[.string f.name, .int .i64 f.len, .int .i64 f.a0, .int .i64 f.a1, .int .i64 f.a2, .int .i64 f.res] 81)).alloc (.cells #[.int .i64 x, .int .i64 y, .int .i64 z] 45)) := by
  have h := ((isK_bx w sv fv mv zv wv).row #[.string f.name, .int .i64 f.len, .int .i64 f.a0, .int .i64 f.a1, .int .i64 f.a2, .int .i64 f.res] 81).row #[.int .i64 x, .int .i64 y, .int .i64 z] 45
  simp only [World.size_alloc] at h
  exact h
def F9C (w x : World) (sv fv mv zv wv : Value) (f : Fn) (X Y Z : Int) (j : Nat) : Prop :=
  x.cell? ⟨w.heap.size, 0, none⟩ = some sv ∧ x.cell? ⟨w.heap.size, 1, none⟩ = some fv ∧ x.cell? ⟨w.heap.size, 2, none⟩ = some mv ∧ x.cell? ⟨w.heap.size + 1, 0, none⟩ = some zv ∧ x.cell? ⟨w.heap.size + 1, 1, none⟩ = some wv ∧
  x.cell? ⟨w.heap.size + 2, 1, none⟩ = some (.int .i64 f.len) ∧ x.cell? ⟨w.heap.size + 2, 2 + j, none⟩ = some (.int .i64 (f.arg j)) ∧ x.cell? ⟨w.heap.size + 3, j, none⟩ = some (.int .i64 (a3 X Y Z j))
theorem f9K_cells {w x : World} {sv fv mv zv wv : Value} {f : Fn} {X Y Z : Int} (h : Bx w (f9K w sv fv mv zv wv f X Y Z) x) {j : Nat} (hj : j < 3) : F9C w x sv fv mv zv wv f X Y Z j := by
  obtain ⟨⟨x0, -⟩, ⟨x1, -⟩, ⟨x2, -⟩, -⟩ := h.left.cells
  obtain ⟨-, ⟨f1, -⟩, ⟨f2, -⟩, ⟨f3, -⟩, ⟨f4, -⟩, -⟩ := h.right.left.cells
  obtain ⟨⟨k0, -⟩, ⟨k1, -⟩, ⟨k2, -⟩, ⟨k3, -⟩, ⟨k4, -⟩, -⟩ := h.right.right.cells
  refine ⟨k2, k3, k4, k0, k1, f1, ?_, ?_⟩
  · match j, hj with
    | 0, _ => exact f2
    | 1, _ => exact f3
    | 2, _ => exact f4
  · match j, hj with
    | 0, _ => exact x0
    | 1, _ => exact x1
    | 2, _ => exact x2
theorem a3_R {x y z : Int} (hx : R64 x) (hy : R64 y) (hz : R64 z) (j : Nat) : R64 (a3 x y z j) := by
  match j with
  | 0 => exact hx
  | 1 => exact hy
  | j + 2 => exact hz
theorem fn_arg_R {f : Fn} (h : FnR f) (j : Nat) : R64 (f.arg j) := by
  match j with
  | 0 => exact h.a0
  | 1 => exact h.a1
  | j + 2 => exact h.a2
set_option maxHeartbeats 16000000 in
theorem R9Fits_any (A FA MA ZA WA : Option Addr) (ns nf nm nz nw c fc mc zc wc : Nat) (W : Wd) (f : Fn) (x y z : Int) (w : World) (hz : W.nz = nz) (hZ : IntsAt w (.slice ZA nz zc) nz W.Z) (hn : nz ≤ 1000000) (hf : FnR f) (hx : R64 x) (hy : R64 y) (hzz : R64 z) :
    Calls Tryz.prog 31 #[.agg #[.slice A ns c, .slice FA nf fc, .slice MA nm mc], .agg #[.slice ZA nz zc, .slice WA nw wc], fnV f, .agg #[.int .i64 x, .int .i64 y, .int .i64 z]] w fun e w' => e = .returned (.bool (fitB ns W f (a3 x y z))) ∧ Below w.heap.size w w' := by
  unfold fnV
  have hx0 := Lib.hid (f9K_bx w (.slice A ns c) (.slice FA nf fc) (.slice MA nm mc) (.slice ZA nz zc) (.slice WA nw wc) f x y z)
  have hIs := Lib.hid fun (s v : Int) (hs : R64 s) (hv : R64 v) (X : World) (hb : Below w.heap.size w X) => RIs_any A FA MA ZA WA ns nf nm nz nw c fc mc zc wc W s v X hz (hZ.below hb) hn hs hv
  have hno := Lib.hid fun i (hi : i < 3) h => fit_no (ns := ns) (W := W) (f := f) (a := a3 x y z) (i := i) hi h
  have hyes := Lib.hid fun h => fit_yes (ns := ns) (W := W) (f := f) (a := a3 x y z) h
  have hfit : Hid (∀ i, fitB1 ns W f (a3 x y z) i = if (i : Int) < f.len then isB ns W (f.arg i) (a3 x y z i) else decide (a3 x y z i = 0)) := fun i => rfl
  have haR := Lib.hid (fun j => a3_R hx hy hzz j)
  have hfR := Lib.hid (fun j => fn_arg_R hf j)
  have hK := Lib.hid fun (X : World) (h : Bx w (f9K w (.slice A ns c) (.slice FA nf fc) (.slice MA nm mc) (.slice ZA nz zc) (.slice WA nw wc) f x y z) X) (j : Nat) (hj : j < 3) => f9K_cells h hj
  unfold F9C at hK
  have hal : Tryz.prog.arrayLen 45 = 3 := by kernel_rfl
  clear hz hZ hf hx hy hzz
  go_enter Tryz.func31, Tryz.ntmps31
  go_wp2_with fail
  go_loopw [9] (fun i wr => ∃ j : Nat, j ≤ 3 ∧ i = .int .i64 j ∧ Hid (∀ k, k < j → fitB1 ns W f (a3 x y z) k = true) ∧ Hid (Bx w (f9K w (.slice A ns c) (.slice FA nf fc) (.slice MA nm mc) (.slice ZA nz zc) (.slice WA nw wc) f x y z) wr)) (fun i _ => 3 - (intOf i).toNat)
  case atStart => exact ⟨0, Nat.zero_le _, rfl, fun k hk => absurd hk (Nat.not_lt_zero _), hx0.out⟩
  case round =>
    clear hx0
    obtain ⟨j, hj, rfl, hall, hx⟩ := hrel
    by_cases hlt : j < 3
    case neg =>
      have i1 : decide ((j : Int) < 3) = false := decide_eq_false (by omega)
      have hT : Hid (fitB ns W f (a3 x y z) = true) := hyes.out fun i hi => hall.out i (by omega)
      go_wp2_with fail
      go_ret
      exact ⟨by rw [hT.out]; rfl, hx.out.bel⟩
    have i1 : decide ((j : Int) < 3) = true := decide_eq_true (by omega)
    have hj0 : (0 : Int) ≤ (j : Int) := by omega
    have hj3 : (j : Int) < 3 := by omega
    have hKj := Lib.hid (fun X h => hK.out X h j hlt)
    have hI := Lib.hid (hIs.out (f.arg j) (a3 x y z j) (hfR.out j) (haR.out j))
    have hfj := hfit.out j
    have hnoj := Lib.hid (hno.out j hlt)
    generalize a3 x y z j = v at *
    generalize isB ns W (f.arg j) v = q at *
    by_cases hl : (j : Int) < f.len
    · have e1 : decide ((j : Int) < f.len) = true := decide_eq_true hl
      have e2 : decide (f.len ≤ (j : Int)) = false := decide_eq_false (by omega)
      rw [if_pos hl] at hfj
      clear hl
      cases q with
      | true =>
        have hT := Lib.hid hfj
        clear hfj
        go_upto_region 4 with fail
        refine region_cls (fun X => Bx w (f9K w (.slice A ns c) (.slice FA nf fc) (.slice MA nm mc) (.slice ZA nz zc) (.slice WA nw wc) f x y z) X) (by kernel_rfl) (by kernel_rfl) hx.out.drew ?_
        repeat (first
          | go_big_quiet_skip
          | (go_big_quiet_want; first
            | (go_big_quiet_op; go_big_quiet_on)
            | (unfold Oper.quiet; apply Exists.intro; refine ⟨fun x hx => ?_, ?_⟩; (obtain ⟨c0, c1, c2, c3, c4, c5, c6, c7⟩ := hKj.out x hx; unfold Oper.quietAt; first
                | (go_simp; exact ⟨rfl, rfl⟩)
                | (go_simp; exact rfl)
                | (go_simp; done)
                | (go_simp; go_at_call 30; refine (hI.out x hx.bel).mono ?_; rintro e w' ⟨rfl, hb'⟩; exact ⟨rfl, hx.step hb'⟩)
                | fail); go_simp; go_big_quiet_on)))
        refine wpQuiet_nil ?_
        rintro w4 hx4
        have hx4' := Lib.hid hx4
        clear hx4 hx
        go_wp2_with fail
        go_roundw
        case rel => exact ⟨j + 1, by omega, by go_num, fun k hk => by
          by_cases e : k = j
          · subst e; exact hT.out
          · exact hall.out k (by omega), hx4'.out⟩
        case measure => simp [intOf]; omega
      | false =>
        have hF := Lib.hid (hnoj.out hfj)
        clear hfj
        go_upto_region 4 with fail
        refine region_cls (fun X => Bx w (f9K w (.slice A ns c) (.slice FA nf fc) (.slice MA nm mc) (.slice ZA nz zc) (.slice WA nw wc) f x y z) X) (by kernel_rfl) (by kernel_rfl) hx.out.drew ?_
        repeat (first
          | go_big_quiet_skip
          | (go_big_quiet_want; first
            | (go_big_quiet_op; go_big_quiet_on)
            | (unfold Oper.quiet; apply Exists.intro; refine ⟨fun x hx => ?_, ?_⟩; (obtain ⟨c0, c1, c2, c3, c4, c5, c6, c7⟩ := hKj.out x hx; unfold Oper.quietAt; first
                | (go_simp; exact ⟨rfl, rfl⟩)
                | (go_simp; exact rfl)
                | (go_simp; done)
                | (go_simp; go_at_call 30; refine (hI.out x hx.bel).mono ?_; rintro e w' ⟨rfl, hb'⟩; exact ⟨rfl, hx.step hb'⟩)
                | fail); go_simp; go_big_quiet_on)))
        refine wpQuiet_nil ?_
        rintro w4 hx4
        have hb4 := Lib.hid hx4.bel
        clear hx4 hx
        go_wp2_with fail
        go_ret
        exact ⟨by rw [hF.out]; rfl, hb4.out⟩
    · have e1 : decide ((j : Int) < f.len) = false := decide_eq_false hl
      have e2 : decide (f.len ≤ (j : Int)) = true := decide_eq_true (by omega)
      rw [if_neg hl] at hfj
      clear hl hI
      obtain ⟨c0, c1, c2, c3, c4, c5, c6, c7⟩ := hKj.out _ hx.out
      by_cases hv : v = 0
      · have e3 : (v != 0) = false := by simpa using hv
        have hT : Hid (fitB1 ns W f (a3 x y z) j = true) := by unfold Hid; rw [hfj, decide_eq_true hv]
        clear hfj hv
        go_wp2_with fail
        go_quiet (fail)
        go_wp2_with fail
        go_roundw
        case rel => exact ⟨j + 1, by omega, by go_num, fun k hk => by
          by_cases e : k = j
          · subst e; exact hT.out
          · exact hall.out k (by omega), hx.out.drewN _⟩
        case measure => simp [intOf]; omega
      · have e3 : (v != 0) = true := by simpa using hv
        have hF : Hid (fitB ns W f (a3 x y z) = false) := hnoj.out (by rw [hfj, decide_eq_false hv])
        clear hfj hv
        go_wp2_with fail
        go_quiet (fail)
        go_wp2_with fail
        go_ret
        exact ⟨by rw [hF.out]; rfl, (hx.out.drewN _).bel⟩
end Go.Proofs.YtecmoahadckomaaGreat
