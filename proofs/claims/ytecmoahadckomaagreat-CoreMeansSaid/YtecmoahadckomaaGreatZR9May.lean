/- gantryref09.May. -/
import Derived.Test.YtecmoahadckomaaGreatZR9Fits
import Derived.Test.YtecmoahadckomaaGreatZRCk4
import Derived.BigRegion
import Derived.Deep.CutRange
import Derived.Test.YtecmoahadckomaaGreatZNodeArityStands
namespace Go.Proofs.YtecmoahadckomaaGreat
open Go.RowKit
set_option maxRecDepth 1000000

/-- For the walk: '==' of two rows' arguments. -/
def k3Eq (a b c x y z : Int) : Bool := decide ((⟨a, b, c⟩ : K3) = ⟨x, y, z⟩)
theorem k3Eq_eq (r s : Rw) : k3Eq r.a0 r.a1 r.a2 s.a0 s.a1 s.a2 = decide (r.key = s.key) := rfl
theorem run_eqK3 (W : World) (a b c x y z : Int) : (Op.equalIn 10000 45 (.agg #[.int .i64 a, .int .i64 b, .int .i64 c]) (.agg #[.int .i64 x, .int .i64 y, .int .i64 z])).run Tryz.prog W = .ok (k3Eq a b c x y z) W := by
  rw [run_eqArr 9998]
  congr 1
  unfold k3Eq
  by_cases h0 : a = x <;> by_cases h1 : b = y <;> by_cases h2 : c = z <;> simp [h0, h1, h2]
theorem cellsK.both {K L : List (Nat × Nat × Value)} {x : World} (h : cellsK K x) (h' : cellsK L x) : cellsK (K ++ L) x := by
  induction K with
  | nil => exact h'
  | cons a K ih =>
    obtain ⟨b, o, v⟩ := a
    exact ⟨h.1, ih h.2⟩
/-- The boxes in a round: a function's values, its signature, what came in. -/
def m9K (w : World) (sv fv mv zv wv : Value) (b7 b8 : Nat) (f : Fn) (rv : Value) (e : Int) : List (Nat × Nat × Value) := rowK b8 [rv, .int .i64 e] 0 ++ (fzK b7 f ++ isK w sv fv mv zv wv)
def M9C (w x : World) (sv fv mv zv wv : Value) (b7 b8 : Nat) (f : Fn) (rv : Value) (e : Int) : Prop :=
  x.cell? ⟨w.heap.size, 0, none⟩ = some sv ∧ x.cell? ⟨w.heap.size, 1, none⟩ = some fv ∧ x.cell? ⟨w.heap.size, 2, none⟩ = some mv ∧ x.cell? ⟨w.heap.size + 1, 0, none⟩ = some zv ∧ x.cell? ⟨w.heap.size + 1, 1, none⟩ = some wv ∧
  x.cell? ⟨b7, 0, none⟩ = some (.string f.name) ∧ x.cell? ⟨b7, 1, none⟩ = some (.int .i64 f.len) ∧ x.cell? ⟨b7, 2, none⟩ = some (.int .i64 f.a0) ∧ x.cell? ⟨b7, 3, none⟩ = some (.int .i64 f.a1) ∧ x.cell? ⟨b7, 4, none⟩ = some (.int .i64 f.a2) ∧ x.cell? ⟨b7, 5, none⟩ = some (.int .i64 f.res) ∧
  x.cell? ⟨b8, 0, none⟩ = some rv ∧ x.cell? ⟨b8, 1, none⟩ = some (.int .i64 e)
theorem m9K_cells {w x : World} {sv fv mv zv wv : Value} {b7 b8 : Nat} {f : Fn} {rv : Value} {e : Int} (h : Bx w (m9K w sv fv mv zv wv b7 b8 f rv e) x) : M9C w x sv fv mv zv wv b7 b8 f rv e := by
  obtain ⟨⟨e0, -⟩, ⟨e1, -⟩, -⟩ := h.left.cells
  obtain ⟨⟨f0, -⟩, ⟨f1, -⟩, ⟨f2, -⟩, ⟨f3, -⟩, ⟨f4, -⟩, ⟨f5, -⟩, -⟩ := h.right.left.cells
  obtain ⟨⟨k0, -⟩, ⟨k1, -⟩, ⟨k2, -⟩, ⟨k3, -⟩, ⟨k4, -⟩, -⟩ := h.right.right.cells
  exact ⟨k2, k3, k4, k0, k1, f0, f1, f2, f3, f4, f5, e0, e1⟩
theorem m9K_one {w wr : World} {sv fv mv zv wv : Value} {f : Fn} {rv : Value} {e : Int} (h : Bx w (isK w sv fv mv zv wv) wr) : Bx w (m9K w sv fv mv zv wv wr.heap.size (wr.heap.size + 1) f rv e) ((wr.alloc (.cells #[.string f.name, .int .i64 f.len, .int .i64 f.a0, .int .i64 f.a1, .int .i64 f.a2, .int .i64 f.res] 81)).alloc (.cells #[rv, .int .i64 e] 58)).drew := by
  have h' := ((h.row #[.string f.name, .int .i64 f.len, .int .i64 f.a0, .int .i64 f.a1, .int .i64 f.a2, .int .i64 f.res] 81).row #[rv, .int .i64 e] 58).drew
  simp only [World.size_alloc] at h'
  exact h'
theorem m9K_two {w wr : World} {sv fv mv zv wv : Value} {f : Fn} {rv : Value} {e : Int} (h : Bx w (isK w sv fv mv zv wv) wr) : Bx w (m9K w sv fv mv zv wv (wr.heap.size + 1) wr.heap.size f rv e) ((wr.alloc (.cells #[rv, .int .i64 e] 58)).alloc (.cells #[.string f.name, .int .i64 f.len, .int .i64 f.a0, .int .i64 f.a1, .int .i64 f.a2, .int .i64 f.res] 81)).drew := by
  have h' := ((h.row #[rv, .int .i64 e] 58).row #[.string f.name, .int .i64 f.len, .int .i64 f.a0, .int .i64 f.a1, .int .i64 f.a2, .int .i64 f.res] 81).drew
  simp only [World.size_alloc] at h'
  exact ⟨h'.right.left.cells.both (h'.left.cells.both h'.right.right.cells), h'.bel⟩
theorem fv_yes' {ns : Nat} {W : Wd} {fn : Fn} {f : Fv} (h0 : ∀ i j, i < j → j < f.nr → (f.R i).key ≠ (f.R j).key) (h1 : f.nr ≤ 400) (h2 : isB ns W fn.res f.els = true) (h3 : ∀ k, k < f.nr → rowOkB ns W fn f k = true) : fvB ns W fn f = true :=
  fv_yes ((cntR_iff _ _).2 h0) h1 h2 h3
theorem fv_twice {ns : Nat} {W : Wd} {fn : Fn} {f : Fv} {i j : Nat} (hi : i < j) (hj : j < f.nr) (h : (f.R i).key = (f.R j).key) : fvB ns W fn f = false :=
  fv_once fun e => (cntR_iff _ _).1 e i j hi hj h
set_option maxHeartbeats 16000000 in
theorem R9May_any (sv fv mv zv wv : Value) (g : Sg) (W : Wd) (w : World) (hG : SgAt w sv fv mv g) (hW : WdAt w zv wv W) (hw : FewW W) :
    Calls Tryz.prog 15 #[.agg #[sv, fv, mv], .agg #[zv, wv]] w fun e w' => e = .returned (.bool (mayW g W)) ∧ Below w.heap.size w w' := by
  have hG' := Lib.hid hG
  have hW' := Lib.hid hW
  have hw' := Lib.hid hw
  obtain ⟨A, c, rfl, -, -⟩ := hG.1
  obtain ⟨FA, fc, rfl, ⟨hfn, hfc⟩, -⟩ := hG.2.1
  obtain ⟨MA, mc, rfl, -, -⟩ := hG.2.2
  obtain ⟨ZA, zc, rfl, -, -, hZc⟩ := hW.1
  have hZc' := Lib.hid hZc
  obtain ⟨WA, wq, rfl, ⟨hwn, hwq⟩, -⟩ := hW.2
  have hx := Lib.hid (isK_bx w (.slice A g.ns c) (.slice FA g.nf fc) (.slice MA g.nm mc) (.slice ZA W.nz zc) (.slice WA W.nf wq))
  have hC := Lib.hid (RCheck4_any _ _ _ g _ (hG'.out.below hx.out.bel))
  have hR : Hid (mayW g W = (checkG g && (decide (W.nz = g.ns) && (decide (W.nf = g.nf) && (upTo W.nz (fun i => sizeB (W.Z i)) && upTo W.nf (fun i => fvB g.ns W (g.F i) (W.F i))))))) := rfl
  have hnz := hw.nz
  have hnf := hw.nf
  clear hG hW hw hZc
  obtain ⟨⟨k0, -⟩, ⟨k1, -⟩, ⟨k2, -⟩, ⟨k3, -⟩, ⟨k4, -⟩, -⟩ := hx.out.cells
  go_enter Tryz.func15, Tryz.ntmps15
  go_wp2_with fail
  refine hC.out.mono ?_
  rintro e w1 ⟨rfl, hb1⟩
  have hx1 := Lib.hid (hx.out.step hb1)
  clear hb1 hC hx k0 k1 k2 k3 k4
  obtain ⟨⟨k0, -⟩, ⟨k1, -⟩, ⟨k2, -⟩, ⟨k3, -⟩, ⟨k4, -⟩, -⟩ := hx1.out.cells
  cases hk : checkG g with
  | false =>
    have hF : Hid (mayW g W = false) := by unfold Hid; rw [hR.out, hk]; rfl
    unfold chV
    go_wp2_with fail
    go_ret
    exact ⟨by rw [hF.out]; rfl, hx1.out.bel⟩
  | true =>
  unfold chV
  have hR1 : Hid (mayW g W = (decide (W.nz = g.ns) && (decide (W.nf = g.nf) && (upTo W.nz (fun i => sizeB (W.Z i)) && upTo W.nf (fun i => fvB g.ns W (g.F i) (W.F i)))))) := by unfold Hid; rw [hR.out, hk]; rfl
  clear hR hk
  by_cases h1 : W.nz = g.ns
  case neg =>
    have d1 : ((W.nz : Int) != (g.ns : Int)) = true := by simp; omega
    have hF : Hid (mayW g W = false) := by unfold Hid; rw [hR1.out, decide_eq_false h1]; rfl
    clear h1
    go_wp2_with fail
    go_ret
    exact ⟨by rw [hF.out]; rfl, hx1.out.bel⟩
  have d1 : ((W.nz : Int) != (g.ns : Int)) = false := by simp; omega
  have hR2 : Hid (mayW g W = (decide (W.nf = g.nf) && (upTo W.nz (fun i => sizeB (W.Z i)) && upTo W.nf (fun i => fvB g.ns W (g.F i) (W.F i))))) := by unfold Hid; rw [hR1.out, decide_eq_true h1]; rfl
  clear h1 hR1
  by_cases h2 : W.nf = g.nf
  case neg =>
    have d2 : ((W.nf : Int) != (g.nf : Int)) = true := by simp; omega
    have hF : Hid (mayW g W = false) := by unfold Hid; rw [hR2.out, decide_eq_false h2]; rfl
    clear h2
    go_wp2_with fail
    go_ret
    exact ⟨by rw [hF.out]; rfl, hx1.out.bel⟩
  have d2 : ((W.nf : Int) != (g.nf : Int)) = false := by simp; omega
  have hR3 : Hid (mayW g W = (upTo W.nz (fun i => sizeB (W.Z i)) && upTo W.nf (fun i => fvB g.ns W (g.F i) (W.F i)))) := by unfold Hid; rw [hR2.out, decide_eq_true h2]; rfl
  have h2' := Lib.hid h2
  clear h2 hR2
  have hnoZ : Hid (∀ i, i < W.nz → sizeB (W.Z i) = false → mayW g W = false) := fun i hi h => by rw [hR3.out, upTo_no hi h]; rfl
  have hno : Hid (∀ i, i < W.nf → fvB g.ns W (g.F i) (W.F i) = false → mayW g W = false) := fun i hi h => by rw [hR3.out, upTo_no hi h]; simp
  have hyes : Hid ((∀ i, i < W.nz → sizeB (W.Z i) = true) → (∀ i, i < W.nf → fvB g.ns W (g.F i) (W.F i) = true) → mayW g W = true) := fun a b => by rw [hR3.out, upTo_yes a, upTo_yes b]; rfl
  clear hR3
  go_wp2_with fail
  clear k0 k1 k2 k3 k4 d1 d2
  go_loopw [5] (fun i wr => ∃ j : Nat, j ≤ W.nz ∧ i = .int .i64 j ∧ Hid (∀ k, k < j → sizeB (W.Z k) = true) ∧ Hid (Bx w (isK w (.slice A g.ns c) (.slice FA g.nf fc) (.slice MA g.nm mc) (.slice ZA W.nz zc) (.slice WA W.nf wq)) wr)) (fun i _ => W.nz - (intOf i).toNat)
  case atStart => exact ⟨0, Nat.zero_le _, rfl, fun k hk => absurd hk (Nat.not_lt_zero _), hx1.out⟩
  case round =>
  clear hx1
  obtain ⟨j, hj, rfl, hallZ, hx⟩ := hrel
  obtain ⟨⟨k0, -⟩, ⟨k1, -⟩, ⟨k2, -⟩, ⟨k3, -⟩, ⟨k4, -⟩, -⟩ := hx.out.cells
  by_cases hlt : j < W.nz
  case pos =>
    have i1 : decide ((j : Int) < (W.nz : Int)) = true := decide_eq_true (by omega)
    obtain ⟨zb, zo, rfl, hzb, hc⟩ := hZc'.out (by omega)
    have rj := (hx.out.bel.cell (p := ⟨zb, zo + j, none⟩) hzb).trans (hc j hlt)
    have hsz : sizeB (W.Z j) = decide (1 ≤ W.Z j ∧ W.Z j ≤ 1000) := rfl
    clear hc
    by_cases h1 : W.Z j < 1
    · have d1 : decide (W.Z j < 1) = true := decide_eq_true h1
      have hF := Lib.hid (hnoZ.out j hlt (by rw [hsz]; exact decide_eq_false (by omega)))
      clear h1 hsz
      go_wp2_with fail
      go_ret
      exact ⟨by rw [hF.out]; rfl, hx.out.bel⟩
    have d1 : decide (W.Z j < 1) = false := decide_eq_false h1
    by_cases h3 : 1000 < W.Z j
    · have d3 : decide (1000 < W.Z j) = true := decide_eq_true h3
      have hF := Lib.hid (hnoZ.out j hlt (by rw [hsz]; exact decide_eq_false (by omega)))
      clear h1 h3 hsz
      go_wp2_with fail
      go_ret
      exact ⟨by rw [hF.out]; rfl, hx.out.bel⟩
    have d3 : decide (1000 < W.Z j) = false := decide_eq_false h3
    have hT := Lib.hid (show sizeB (W.Z j) = true by rw [hsz]; exact decide_eq_true (by omega))
    clear h1 h3 hsz
    go_wp2_with fail
    go_roundw
    case rel => exact ⟨j + 1, by omega, by go_num, fun k hk => by
      by_cases e : k = j
      · subst e; exact hT.out
      · exact hallZ.out k (by omega), hx.out⟩
    case measure => simp [intOf]; omega
  have i1 : decide ((j : Int) < (W.nz : Int)) = false := decide_eq_false (by omega)
  have hyesF := Lib.hid (hyes.out fun i hi => hallZ.out i (by omega))
  clear hyes hallZ hnoZ
  go_wp2_with fail
  clear k0 k1 k2 k3 k4 i1 hlt hj
  have hx0 := Lib.hid hx.out
  clear hx
  go_loopw [6] (fun i wr => ∃ j : Nat, j ≤ W.nf ∧ i = .int .i64 j ∧ Hid (∀ k, k < j → fvB g.ns W (g.F k) (W.F k) = true) ∧ Hid (Bx w (isK w (.slice A g.ns c) (.slice FA g.nf fc) (.slice MA g.nm mc) (.slice ZA W.nz zc) (.slice WA W.nf wq)) wr)) (fun i _ => W.nf - (intOf i).toNat)
  case atStart => exact ⟨0, Nat.zero_le _, rfl, fun k hk => absurd hk (Nat.not_lt_zero _), hx0.out⟩
  case round =>
  clear hx0
  obtain ⟨j, hj, rfl, hall, hx⟩ := hrel
  obtain ⟨⟨k0, -⟩, ⟨k1, -⟩, ⟨k2, -⟩, ⟨k3, -⟩, ⟨k4, -⟩, -⟩ := hx.out.cells
  by_cases hlt : j < W.nf
  case neg =>
    have i1 : decide ((j : Int) < (W.nf : Int)) = false := decide_eq_false (by omega)
    have hT := Lib.hid (hyesF.out fun i hi => hall.out i (by omega))
    go_wp2_with fail
    go_ret
    exact ⟨by rw [hT.out]; rfl, hx.out.bel⟩
  have i1 : decide ((j : Int) < (W.nf : Int)) = true := decide_eq_true (by omega)
  have hltf : j < g.nf := by have := h2'.out; omega
  obtain ⟨fb, fo, fcc, efv, hfb, hfn1⟩ := RowAt.cells_at hG'.out.2.1 hltf
  injection efv with efa _ efc
  obtain ⟨wb, wo, wcc, ewv, hwb, hwn0⟩ := RowAt.cells_at hW'.out.2 hlt
  injection ewv with ewa _ ewc
  subst efa; subst ewa; subst efc; subst ewc
  obtain ⟨v0, v1, ⟨y0, y1⟩, hfvi⟩ := hwn0
  obtain ⟨rA, rc, rfl, ⟨hrn, hrc⟩, -⟩ := hfvi.1
  have hv1 := hfvi.2.1
  subst hv1
  have q0 := (hx.out.bel.cell (p := ⟨wb, wo + j * 2, none⟩) hwb).trans y0
  have q1 := (hx.out.bel.cell (p := ⟨wb, wo + j * 2 + 1, none⟩) hwb).trans y1
  obtain ⟨p0, p1, p2, p3, p4, p5⟩ := hfn1.1.keep fun o => hx.out.bel.cell (p := ⟨fb, o, none⟩) hfb
  have hj0 : (0 : Int) ≤ (j : Int) := by omega
  have hjn : (j : Int) < (W.nf : Int) := by omega
  have hjf : (j : Int) < (g.nf : Int) := by omega
  have hB1 : w.heap.size + 1 < wr.heap.size := hx.out.cells.1.2
  have hB0 : w.heap.size < wr.heap.size := by omega
  have hfbr : fb < wr.heap.size := Nat.lt_of_lt_of_le hfb hx.out.bel.size
  have hwbr : wb < wr.heap.size := Nat.lt_of_lt_of_le hwb hx.out.bel.size
  have hT1 : ∀ {b o : Nat} {v : Value} (A : Obj), wr.cell? ⟨b, o, none⟩ = some v → b < wr.heap.size → (wr.alloc A).cell? ⟨b, o, none⟩ = some v := fun A h hb => (World.cell?_alloc_lt _ _ _ hb).trans h
  have hT2 : ∀ {b o : Nat} {v : Value} (A A' : Obj), wr.cell? ⟨b, o, none⟩ = some v → b < wr.heap.size → ((wr.alloc A).alloc A').cell? ⟨b, o, none⟩ = some v := fun A A' h hb => (World.cell?_alloc_lt _ _ _ (by simp; omega)).trans (hT1 A h hb)
  have a1 := fun A => hT1 A k1 hB1
  have a2 := fun A A' => hT2 A A' k1 hB1
  have a3 := fun A => hT1 A k3 hB0
  have a4 := fun A A' => hT2 A A' k3 hB0
  have b1 := fun A => hT1 A p0 hfbr
  have b2 := fun A => hT1 A p1 hfbr
  have b3 := fun A => hT1 A p2 hfbr
  have b4 := fun A => hT1 A p3 hfbr
  have b5 := fun A => hT1 A p4 hfbr
  have b6 := fun A => hT1 A p5 hfbr
  have c1 := fun A A' => hT2 A A' p0 hfbr
  have c2 := fun A A' => hT2 A A' p1 hfbr
  have c3 := fun A A' => hT2 A A' p2 hfbr
  have c4 := fun A A' => hT2 A A' p3 hfbr
  have c5 := fun A A' => hT2 A A' p4 hfbr
  have c6 := fun A A' => hT2 A A' p5 hfbr
  have e1 := fun A => hT1 A q0 hwbr
  have e2 := fun A => hT1 A q1 hwbr
  have e3 := fun A A' => hT2 A A' q0 hwbr
  have e4 := fun A A' => hT2 A A' q1 hwbr
  clear hT1 hT2
  go_upto_region 11 with fail
  go_cut [7, 8] from 60 to 69 (fun u v y => ∃ b7 b8, u = .pointer (some ⟨b7, 0, none⟩) ∧ v = .pointer (some ⟨b8, 0, none⟩) ∧ Hid (Bx w (m9K w (.slice A g.ns c) (.slice (some ⟨fb, fo, none⟩) g.nf fc) (.slice MA g.nm mc) (.slice ZA W.nz zc) (.slice (some ⟨wb, wo, none⟩) W.nf wq) b7 b8 (g.F j) (.slice rA (W.F j).nr rc) (W.F j).els) y))
  case first =>
    go_region
    all_goals go_wp2_with fail
    all_goals go_meet
    · exact ⟨_, _, rfl, rfl, m9K_one hx.out⟩
    · exact ⟨_, _, rfl, rfl, m9K_two hx.out⟩
  case rest =>
  obtain ⟨b7, b8, rfl, rfl, hx2⟩ := hcut
  clear a1 a2 a3 a4 b1 b2 b3 b4 b5 b6 c1 c2 c3 c4 c5 c6 e1 e2 e3 e4 p0 p1 p2 p3 p4 p5 q0 q1 k0 k1 k2 k3 k4 y0 y1 hB1 hB0 hfbr hwbr hx
  have hIs := Lib.hid fun (s v : Int) (hs : R64 s) (hv : R64 v) (X : World) (hb : Below w.heap.size w X) => RIs_any A (some ⟨fb, fo, none⟩) MA ZA (some ⟨wb, wo, none⟩) g.ns g.nf g.nm W.nz W.nf c fc mc zc wq W s v X rfl (hW'.out.1.below hb) hw'.out.nz hs hv
  have hFi := Lib.hid fun (x y z : Int) (hx : R64 x) (hy : R64 y) (hz : R64 z) (X : World) (hb : Below w.heap.size w X) => R9Fits_any A (some ⟨fb, fo, none⟩) MA ZA (some ⟨wb, wo, none⟩) g.ns g.nf g.nm W.nz W.nf c fc mc zc wq W (g.F j) x y z X rfl (hW'.out.1.below hb) hw'.out.nz hfn1.2 hx hy hz
  have hI := Lib.hid (hIs.out _ _ hfn1.2.res hfvi.2.2)
  have hI2 := Lib.hid fun (v : Int) (hv : R64 v) => hIs.out _ v hfn1.2.res hv
  have hrow := Lib.hid fun (k : Nat) (hk : k < (W.F j).nr) => RowAt.cells_at hfvi.1 hk
  have hnoj := Lib.hid (hno.out j hlt)
  have hnr : (W.F j).nr ≤ 1000000 := hw'.out.nr j hlt
  unfold fnV at hFi
  clear hfn1 hfvi hno hIs
  have hM := Lib.hid fun (x : World) (h : Bx w (m9K w (.slice A g.ns c) (.slice (some ⟨fb, fo, none⟩) g.nf fc) (.slice MA g.nm mc) (.slice ZA W.nz zc) (.slice (some ⟨wb, wo, none⟩) W.nf wq) b7 b8 (g.F j) (.slice rA (W.F j).nr rc) (W.F j).els) x) => m9K_cells h
  unfold M9C at hM
  obtain ⟨k0, k1, k2, k3, k4, k5, k6, k7, k8, k9, k10, k11, k12⟩ := hM.out _ hx2.out
  by_cases hm : (W.F j).nr ≤ 400
  case neg =>
    have d2 : decide (400 < ((W.F j).nr : Int)) = true := decide_eq_true (by omega)
    have hF : Hid (mayW g W = false) := hnoj.out (fv_many hm)
    clear hm
    go_wp2_with fail
    go_ret
    exact ⟨by rw [hF.out]; rfl, hx2.out.bel⟩
  have d2 : decide (400 < ((W.F j).nr : Int)) = false := decide_eq_false (by omega)
  have hm' := Lib.hid hm
  clear hm
  go_wp2_with fail
  refine (hI.out _ hx2.out.bel).mono ?_
  rintro e w3 ⟨rfl, hb3⟩
  have hx3 := Lib.hid (hx2.out.step hb3)
  clear hb3 hx2 k0 k1 k2 k3 k4 k5 k6 k7 k8 k9 k10 k11 k12
  cases hq : isB g.ns W (g.F j).res (W.F j).els with
  | false =>
    have hF : Hid (mayW g W = false) := hnoj.out (fv_else hq)
    go_wp2_with fail
    go_ret
    exact ⟨by rw [hF.out]; rfl, hx3.out.bel⟩
  | true =>
  have hq' := Lib.hid hq
  clear hq d2
  obtain ⟨k0, k1, k2, k3, k4, k5, k6, k7, k8, k9, k10, k11, k12⟩ := hM.out _ hx3.out
  have hnok := Lib.hid fun k (hk : k < (W.F j).nr) (h : rowOkB g.ns W (g.F j) (W.F j) k = false) => hnoj.out (fv_row hk h)
  have hnot := Lib.hid fun i k (hi : i < k) (hk : k < (W.F j).nr) (h : ((W.F j).R i).key = ((W.F j).R k).key) => hnoj.out (fv_twice hi hk h)
  have hyesj := Lib.hid fun h h' => fv_yes' (ns := g.ns) (W := W) (fn := g.F j) (f := W.F j) h hm'.out hq'.out h'
  have hek := run_eqK3
  have heqk : Hid (∀ r s : Rw, k3Eq r.a0 r.a1 r.a2 s.a0 s.a1 s.a2 = decide (r.key = s.key)) := k3Eq_eq
  clear hnoj hI hm' hq'
  go_wp2_with fail
  clear k0 k1 k2 k3 k4 k5 k6 k7 k8 k9 k10 k11 k12 i1
  go_loopw [9, 10] (fun i _ wr2 => ∃ k : Nat, k ≤ (W.F j).nr ∧ i = .int .i64 k ∧ Hid (∀ r, r < k → rowOkB g.ns W (g.F j) (W.F j) r = true) ∧ Hid (∀ r s, r < s → s < k → ((W.F j).R r).key ≠ ((W.F j).R s).key) ∧ Hid (Bx w (m9K w (.slice A g.ns c) (.slice (some ⟨fb, fo, none⟩) g.nf fc) (.slice MA g.nm mc) (.slice ZA W.nz zc) (.slice (some ⟨wb, wo, none⟩) W.nf wq) b7 b8 (g.F j) (.slice rA (W.F j).nr rc) (W.F j).els) wr2)) (fun i _ _ => (W.F j).nr - (intOf i).toNat)
  case atStart => exact ⟨0, Nat.zero_le _, rfl, fun k hk => absurd hk (Nat.not_lt_zero _), fun r s _ hs => absurd hs (Nat.not_lt_zero _), hx3.out⟩
  case round =>
  clear hx3
  obtain ⟨k, hk, rfl, hallk, hone, hx⟩ := hrel
  obtain ⟨k0, k1, k2, k3, k4, k5, k6, k7, k8, k9, k10, k11, k12⟩ := hM.out _ hx.out
  by_cases hltk : k < (W.F j).nr
  case neg =>
    have i2 : decide ((k : Int) < ((W.F j).nr : Int)) = false := decide_eq_false (by omega)
    have hT : Hid (fvB g.ns W (g.F j) (W.F j) = true) := hyesj.out (fun r s hr hs => hone.out r s hr (by omega)) (fun i hi => hallk.out i (by omega))
    have hx' := Lib.hid (hx.out.right.right)
    go_wp2_with fail
    go_roundw
    case rel => exact ⟨j + 1, by omega, by go_num, fun r hr => by
      by_cases e : r = j
      · subst e; exact hT.out
      · exact hall.out r (by omega), hx'.out⟩
    case measure => simp [intOf]; omega
  have i2 : decide ((k : Int) < ((W.F j).nr : Int)) = true := decide_eq_true (by omega)
  obtain ⟨rb, ro, rcc, erv, hrb, hrw⟩ := hrow.out k hltk
  injection erv with era _ erc
  subst era; subst erc
  have hrs := Lib.hid fun (x : World) (h : Bx w (m9K w (.slice A g.ns c) (.slice (some ⟨fb, fo, none⟩) g.nf fc) (.slice MA g.nm mc) (.slice ZA W.nz zc) (.slice (some ⟨wb, wo, none⟩) W.nf wq) b7 b8 (g.F j) (.slice (some ⟨rb, ro, none⟩) (W.F j).nr rc) (W.F j).els) x) => RwIn.stays (W.F j).R hrw hrb h.bel
  have hMr := Lib.hid fun (x : World) (h : Bx w (m9K w (.slice A g.ns c) (.slice (some ⟨fb, fo, none⟩) g.nf fc) (.slice MA g.nm mc) (.slice ZA W.nz zc) (.slice (some ⟨wb, wo, none⟩) W.nf wq) b7 b8 (g.F j) (.slice (some ⟨rb, ro, none⟩) (W.F j).nr rc) (W.F j).els) x) => (⟨hM.out x h, (hrs.out x h).1⟩ : _ ∧ RwLies x rb (ro + k * 4) ((W.F j).R k))
  unfold RwLies at hMr
  have hrR := (hrs.out _ hx.out).2
  have hI3 := Lib.hid (hI2.out _ hrR.val)
  have hFi3 := Lib.hid (hFi.out _ _ _ hrR.a0 hrR.a1 hrR.a2)
  have hrok : rowOkB g.ns W (g.F j) (W.F j) k = (fitB g.ns W (g.F j) (a3 ((W.F j).R k).a0 ((W.F j).R k).a1 ((W.F j).R k).a2) && isB g.ns W (g.F j).res ((W.F j).R k).val) := rfl
  have hnokk := Lib.hid (hnok.out k hltk)
  have hk0 : (0 : Int) ≤ (k : Int) := by omega
  have hkn : (k : Int) < ((W.F j).nr : Int) := by omega
  have hkd : decide ((W.F j).nr ≤ k) = false := decide_eq_false (by omega)
  clear hrR hrs hrw
  generalize fitB g.ns W (g.F j) (a3 ((W.F j).R k).a0 ((W.F j).R k).a1 ((W.F j).R k).a2) = qf at *
  generalize isB g.ns W (g.F j).res ((W.F j).R k).val = qi at *
  have hrok' := Lib.hid hrok
  clear hrok
  cases qf with
  | false =>
    have hF : Hid (mayW g W = false) := hnokk.out (by rw [hrok'.out]; rfl)
    go_upto_region 17 with fail
    refine region_cls (fun X => Bx w (m9K w (.slice A g.ns c) (.slice (some ⟨fb, fo, none⟩) g.nf fc) (.slice MA g.nm mc) (.slice ZA W.nz zc) (.slice (some ⟨wb, wo, none⟩) W.nf wq) b7 b8 (g.F j) (.slice (some ⟨rb, ro, none⟩) (W.F j).nr rc) (W.F j).els) X) (by kernel_rfl) (by kernel_rfl) hx.out.drew ?_
    repeat (first
      | go_big_quiet_skip
      | (go_big_quiet_want; first
        | (go_big_quiet_op; go_big_quiet_on)
        | (unfold Oper.quiet; apply Exists.intro; refine ⟨fun x hx => ?_, ?_⟩; (obtain ⟨⟨c0, c1, c2, c3, c4, c5, c6, c7, c8, c9, c10, c11, c12⟩, r0, r1, r2, r3⟩ := hMr.out x hx; unfold Oper.quietAt; first
            | (go_simp; exact ⟨rfl, rfl⟩)
            | (go_simp; exact rfl)
            | (go_simp; done)
            | (go_simp; go_at_call 30; refine (hI3.out x hx.bel).mono ?_; rintro e w' ⟨rfl, hb'⟩; exact ⟨rfl, hx.step hb'⟩)
            | (go_simp; go_at_call 31; refine (hFi3.out x hx.bel).mono ?_; rintro e w' ⟨rfl, hb'⟩; exact ⟨rfl, hx.step hb'⟩)
            | fail); go_simp; go_big_quiet_on)))
    refine wpQuiet_nil ?_
    rintro w4 hx4
    go_wp2_with fail
    go_ret
    exact ⟨by rw [hF.out]; rfl, hx4.bel⟩
  | true =>
  cases qi with
  | false =>
    have hF : Hid (mayW g W = false) := hnokk.out (by rw [hrok'.out]; rfl)
    go_upto_region 17 with fail
    refine region_cls (fun X => Bx w (m9K w (.slice A g.ns c) (.slice (some ⟨fb, fo, none⟩) g.nf fc) (.slice MA g.nm mc) (.slice ZA W.nz zc) (.slice (some ⟨wb, wo, none⟩) W.nf wq) b7 b8 (g.F j) (.slice (some ⟨rb, ro, none⟩) (W.F j).nr rc) (W.F j).els) X) (by kernel_rfl) (by kernel_rfl) hx.out.drew ?_
    repeat (first
      | go_big_quiet_skip
      | (go_big_quiet_want; first
        | (go_big_quiet_op; go_big_quiet_on)
        | (unfold Oper.quiet; apply Exists.intro; refine ⟨fun x hx => ?_, ?_⟩; (obtain ⟨⟨c0, c1, c2, c3, c4, c5, c6, c7, c8, c9, c10, c11, c12⟩, r0, r1, r2, r3⟩ := hMr.out x hx; unfold Oper.quietAt; first
            | (go_simp; exact ⟨rfl, rfl⟩)
            | (go_simp; exact rfl)
            | (go_simp; done)
            | (go_simp; go_at_call 30; refine (hI3.out x hx.bel).mono ?_; rintro e w' ⟨rfl, hb'⟩; exact ⟨rfl, hx.step hb'⟩)
            | (go_simp; go_at_call 31; refine (hFi3.out x hx.bel).mono ?_; rintro e w' ⟨rfl, hb'⟩; exact ⟨rfl, hx.step hb'⟩)
            | fail); go_simp; go_big_quiet_on)))
    refine wpQuiet_nil ?_
    rintro w4 hx4
    go_wp2_with fail
    go_ret
    exact ⟨by rw [hF.out]; rfl, hx4.bel⟩
  | true =>
  have hTk : Hid (rowOkB g.ns W (g.F j) (W.F j) k = true) := hrok'.out
  go_upto_region 17 with fail
  refine region_cls (fun X => Bx w (m9K w (.slice A g.ns c) (.slice (some ⟨fb, fo, none⟩) g.nf fc) (.slice MA g.nm mc) (.slice ZA W.nz zc) (.slice (some ⟨wb, wo, none⟩) W.nf wq) b7 b8 (g.F j) (.slice (some ⟨rb, ro, none⟩) (W.F j).nr rc) (W.F j).els) X) (by kernel_rfl) (by kernel_rfl) hx.out.drew ?_
  repeat (first
    | go_big_quiet_skip
    | (go_big_quiet_want; first
      | (go_big_quiet_op; go_big_quiet_on)
      | (unfold Oper.quiet; apply Exists.intro; refine ⟨fun x hx => ?_, ?_⟩; (obtain ⟨⟨c0, c1, c2, c3, c4, c5, c6, c7, c8, c9, c10, c11, c12⟩, r0, r1, r2, r3⟩ := hMr.out x hx; unfold Oper.quietAt; first
          | (go_simp; exact ⟨rfl, rfl⟩)
          | (go_simp; exact rfl)
          | (go_simp; done)
          | (go_simp; go_at_call 30; refine (hI3.out x hx.bel).mono ?_; rintro e w' ⟨rfl, hb'⟩; exact ⟨rfl, hx.step hb'⟩)
          | (go_simp; go_at_call 31; refine (hFi3.out x hx.bel).mono ?_; rintro e w' ⟨rfl, hb'⟩; exact ⟨rfl, hx.step hb'⟩)
          | fail); go_simp; go_big_quiet_on)))
  refine wpQuiet_nil ?_
  rintro w4 hx4
  have hx4' := Lib.hid hx4
  clear hx4 hx hI3 hFi3 hnokk hrok' k0 k1 k2 k3 k4 k5 k6 k7 k8 k9 k10 k11 k12
  go_wp2_with fail
  go_loopw [10] (fun i wr3 => ∃ r : Nat, r ≤ k ∧ i = .int .i64 r ∧ Hid (∀ s, s < r → ((W.F j).R s).key ≠ ((W.F j).R k).key) ∧ Hid (Bx w (m9K w (.slice A g.ns c) (.slice (some ⟨fb, fo, none⟩) g.nf fc) (.slice MA g.nm mc) (.slice ZA W.nz zc) (.slice (some ⟨wb, wo, none⟩) W.nf wq) b7 b8 (g.F j) (.slice (some ⟨rb, ro, none⟩) (W.F j).nr rc) (W.F j).els) wr3)) (fun i _ => k - (intOf i).toNat)
  case atStart => exact ⟨0, Nat.zero_le _, rfl, fun s hs => absurd hs (Nat.not_lt_zero _), hx4'.out⟩
  case round =>
  clear hx4'
  obtain ⟨r, hr, rfl, hne, hx⟩ := hrel
  by_cases hltr : r < k
  case neg =>
    have i3 : decide ((r : Int) < (k : Int)) = false := decide_eq_false (by omega)
    go_wp2_with fail
    go_roundw
    case rel => exact ⟨k + 1, by omega, by go_num, fun s hs => by
      by_cases e : s = k
      · subst e; exact hTk.out
      · exact hallk.out s (by omega), fun s t hst ht => by
      by_cases e : t = k
      · subst e; exact hne.out s (by omega)
      · exact hone.out s t hst (by omega), hx.out⟩
    case measure => simp [intOf]; omega
  have i3 : decide ((r : Int) < (k : Int)) = true := decide_eq_true (by omega)
  obtain ⟨⟨k0, k1, k2, k3, k4, k5, k6, k7, k8, k9, k10, k11, k12⟩, r0, r1, r2, r3⟩ := hMr.out _ hx.out
  obtain ⟨rb', ro', rcc', erv, hrb', hrw'⟩ := hrow.out r (by omega)
  injection erv with era _ erc
  injection era with era
  injection era with era1 era2
  subst era1; subst era2
  obtain ⟨⟨s0, s1, s2, s3⟩, -⟩ := RwIn.stays (W.F j).R hrw' hrb' hx.out.bel
  have heq := heqk.out ((W.F j).R r) ((W.F j).R k)
  have hr0 : (0 : Int) ≤ (r : Int) := by omega
  have hrn : (r : Int) < ((W.F j).nr : Int) := by omega
  have hrd : decide ((W.F j).nr ≤ r) = false := decide_eq_false (by omega)
  clear hrw' erc
  by_cases he : ((W.F j).R r).key = ((W.F j).R k).key
  · rw [decide_eq_true he] at heq
    have hF : Hid (mayW g W = false) := hnot.out r k hltr hltk he
    clear he
    go_wp2_with fail
    go_quiet (fail)
    go_wp2_with fail
    go_ret
    exact ⟨by rw [hF.out]; rfl, (hx.out.drewN _).bel⟩
  · rw [decide_eq_false he] at heq
    have he' := Lib.hid he
    clear he
    go_wp2_with fail
    go_quiet (fail)
    go_wp2_with fail
    go_roundw
    case rel => exact ⟨r + 1, by omega, by go_num, fun s hs => by
      by_cases e : s = r
      · subst e; exact he'.out
      · exact hne.out s (by omega), hx.out.drewN _⟩
    case measure => simp [intOf]; omega
end Go.Proofs.YtecmoahadckomaaGreat
