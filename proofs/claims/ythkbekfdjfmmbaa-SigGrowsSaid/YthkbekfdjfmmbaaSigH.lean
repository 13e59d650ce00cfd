/- sig.AddFun. -/
import Derived.Test.YthkbekfdjfmmbaaSigG
namespace Go.Proofs.Ythkbekfdjfmmbaa
open Go.RowKit
set_option maxRecDepth 100000

def extF (F : Nat → Fn) (n : Nat) (f : Fn) (i : Nat) : Fn := if i < n then F i else f
def Sg.addF (g : Sg) (f : Fn) : Sg := { g with nf := g.nf + 1, F := extF g.F g.nf f }
/-- What AddFun answers. -/
def afI (g : Sg) (f : Fn) : Int := addI g f.name false (funB g.ns f) g.nf 12
/-- The boxes of a signature and a function. -/
def fgbox (w : World) (sv fv mv : Value) (f : Fn) : List (Nat × Nat × Value) :=
  [(w.heap.size + 1, 0, .string f.name), (w.heap.size + 1, 1, .int .i64 f.len), (w.heap.size + 1, 2, .int .i64 f.a0), (w.heap.size + 1, 3, .int .i64 f.a1), (w.heap.size + 1, 4, .int .i64 f.a2), (w.heap.size + 1, 5, .int .i64 f.res),
   (w.heap.size, 0, sv), (w.heap.size, 1, fv), (w.heap.size, 2, mv)]
theorem fgbox_bx (w : World) (sv fv mv : Value) (f : Fn) : Bx w (fgbox w sv fv mv f) ((w.alloc (.cells #[sv, fv, mv] 26)).alloc (.cells #[.string f.name, .int .i64 f.len, .int .i64 f.a0, .int .i64 f.a1, .int .i64 f.a2, .int .i64 f.res] 29)) :=
  (((Bx.nil w).row #[sv, fv, mv] 26).row #[.string f.name, .int .i64 f.len, .int .i64 f.a0, .int .i64 f.a1, .int .i64 f.a2, .int .i64 f.res] 29).cast (by simp [rowK, fgbox])
def fgCells (w x : World) (sv fv mv : Value) (f : Fn) : Prop :=
  x.cell? ⟨w.heap.size + 1, 0, none⟩ = some (.string f.name) ∧ x.cell? ⟨w.heap.size + 1, 1, none⟩ = some (.int .i64 f.len) ∧ x.cell? ⟨w.heap.size + 1, 2, none⟩ = some (.int .i64 f.a0) ∧ x.cell? ⟨w.heap.size + 1, 3, none⟩ = some (.int .i64 f.a1) ∧
  x.cell? ⟨w.heap.size + 1, 4, none⟩ = some (.int .i64 f.a2) ∧ x.cell? ⟨w.heap.size + 1, 5, none⟩ = some (.int .i64 f.res) ∧ x.cell? ⟨w.heap.size, 0, none⟩ = some sv ∧ x.cell? ⟨w.heap.size, 1, none⟩ = some fv ∧ x.cell? ⟨w.heap.size, 2, none⟩ = some mv
theorem fgbox_cells {w x : World} {sv fv mv : Value} {f : Fn} (h : Bx w (fgbox w sv fv mv f) x) : fgCells w x sv fv mv f :=
  ⟨h.cells.1.1, h.cells.2.1.1, h.cells.2.2.1.1, h.cells.2.2.2.1.1, h.cells.2.2.2.2.1.1, h.cells.2.2.2.2.2.1.1, h.cells.2.2.2.2.2.2.1.1, h.cells.2.2.2.2.2.2.2.1.1, h.cells.2.2.2.2.2.2.2.2.1.1⟩
set_option maxHeartbeats 2000000 in
theorem AddFun_no (sv fv mv : Value) (g : Sg) (f : Fn) (w : World) (hG : SgAt w sv fv mv g) (hf : FewG g) (hn : FnR f) (h : afI g f ≠ 0) :
    Calls Try.prog 14 #[.agg #[sv, fv, mv], fnV f] w fun e w' => e = .returned (.tuple #[sigZ, .int .i64 (afI g f)]) ∧ Below w.heap.size w w' := by
  unfold fnV
  obtain ⟨W, hW⟩ : ∃ W, W = ((w.alloc (.cells #[sv, fv, mv] 26)).alloc (.cells #[.string f.name, .int .i64 f.len, .int .i64 f.a0, .int .i64 f.a1, .int .i64 f.a2, .int .i64 f.res] 29)).alloc (.cells #[.slice none 0 0, .slice none 0 0, .slice none 0 0] 26) := ⟨_, rfl⟩
  have hx0 : Bx w (fgbox w sv fv mv f) W := by rw [hW]; exact (fgbox_bx w sv fv mv f).skip _
  have hr0 : Free3 W (w.heap.size + 2) := by
    have := Free3.new ((w.alloc (.cells #[sv, fv, mv] 26)).alloc (.cells #[.string f.name, .int .i64 f.len, .int .i64 f.a0, .int .i64 f.a1, .int .i64 f.a2, .int .i64 f.res] 29)) (.slice none 0 0) (.slice none 0 0) (.slice none 0 0) 26
    rw [← hW] at this
    simpa using this
  have hns := hf.ns
  have hnf := hf.nf
  have hGW := hG.below hx0.bel
  obtain ⟨A, c, rfl, ⟨hc1, hc2⟩, -⟩ := hG.1
  obtain ⟨FA, fc, rfl, ⟨hf1, hf2⟩, -⟩ := hG.2.1
  obtain ⟨MA, mc, rfl, -, -⟩ := hG.2.2
  have hfu0 := fun x => fun_any A g.ns c (.slice FA g.nf fc) (.slice MA g.nm mc) f x (by omega)
  unfold fnV at hfu0
  have hfu := Lib.hid hfu0
  have hAd := Lib.hid fun x (hb : Below W.heap.size W x) => add_any _ _ _ g f.name false (funB g.ns f) g.nf 12 x (hGW.below hb) hf hn.name
  have d0 : (afI g f != 0) = true := by simpa using h
  have hri : Hid (afI g f = addI g f.name false (funB g.ns f) g.nf 12) := rfl
  rw [← hri.out] at hAd
  clear h hfu0
  generalize afI g f = r at *
  generalize funB g.ns f = fb at *
  have hb0 : Below W.heap.size W W.drew := (Below.refl _ _).drew
  have hKp : ∀ {x : World}, Below W.heap.size W x → (x.cell? ⟨w.heap.size + 1, 0, none⟩ = some (.string f.name) ∧ x.cell? ⟨w.heap.size + 1, 1, none⟩ = some (.int .i64 f.len) ∧ x.cell? ⟨w.heap.size + 1, 2, none⟩ = some (.int .i64 f.a0) ∧ x.cell? ⟨w.heap.size + 1, 3, none⟩ = some (.int .i64 f.a1) ∧
      x.cell? ⟨w.heap.size + 1, 4, none⟩ = some (.int .i64 f.a2) ∧ x.cell? ⟨w.heap.size + 1, 5, none⟩ = some (.int .i64 f.res) ∧ x.cell? ⟨w.heap.size, 0, none⟩ = some (.slice A g.ns c) ∧ x.cell? ⟨w.heap.size, 1, none⟩ = some (.slice FA g.nf fc) ∧ x.cell? ⟨w.heap.size, 2, none⟩ = some (.slice MA g.nm mc)) := fun hb => fgbox_cells (hx0.step hb)
  have hx0' := Lib.hid hx0
  have hr0' := Lib.hid hr0
  have hW' := Lib.hid hW
  clear hx0 hr0 hGW hG hW hri
  go_enter Try.func14, Try.ntmps14
  go_wp2_with fail
  rw [← hW'.out]
  go_region_held3 (fun x => x.cell? ⟨w.heap.size + 1, 0, none⟩ = some (.string f.name) ∧ x.cell? ⟨w.heap.size + 1, 1, none⟩ = some (.int .i64 f.len) ∧ x.cell? ⟨w.heap.size + 1, 2, none⟩ = some (.int .i64 f.a0) ∧ x.cell? ⟨w.heap.size + 1, 3, none⟩ = some (.int .i64 f.a1) ∧
      x.cell? ⟨w.heap.size + 1, 4, none⟩ = some (.int .i64 f.a2) ∧ x.cell? ⟨w.heap.size + 1, 5, none⟩ = some (.int .i64 f.res) ∧ x.cell? ⟨w.heap.size, 0, none⟩ = some (.slice A g.ns c) ∧ x.cell? ⟨w.heap.size, 1, none⟩ = some (.slice FA g.nf fc) ∧ x.cell? ⟨w.heap.size, 2, none⟩ = some (.slice MA g.nm mc))
    (first | exact hKp hb0 | exact hKp hb7 | exact hKp hb8 | fail)
    (first | (go_at_call 39; (with_reducible refine (hfu.out _).mono ?_); rintro e w7 ⟨rfl, hb7⟩; replace hb7 := hb0.trans hb7) | (go_at_call 35; (with_reducible refine (hAd.out _ hb7).mono ?_); rintro e w8 ⟨rfl, hb8⟩; replace hb8 := hb7.trans (hb8.mono hb7.size)) | fail)
  all_goals (have hr8 := Lib.hid (hr0'.out.step hb8); have hx8 := Lib.hid (hx0'.out.step hb8); obtain ⟨⟨u0, z0⟩, ⟨u1, z1⟩, ⟨u2, z2⟩, f0, f1, f2, hz⟩ := hr8.out)
  all_goals go_wp2_with fail
  all_goals exact bodyPost_ret (results_sig2 rfl _ _ (w.heap.size + 2) _ _ _ rfl (hr8.out.set _ _ _)) rfl ⟨rfl, Free3.bel hx8.out.bel (by omega) _ _ _⟩

def fnCs (F : Nat → Fn) (i : Nat) : List Value := fnC (F i)
theorem info_fun : (Try.prog.info? 29).map (fun i => (i.zero, i.size, i.bytes)) = some (some (fnV fn0), 6, 56) := by kernel_rfl
theorem FnLies.six {w : World} {b o : Nat} {f : Fn} (h : FnLies w b o f) : ∀ r u, (fnC f)[r]? = some u → w.cell? ⟨b, o + r, none⟩ = some u := by
  intro r u hu
  obtain ⟨h0, h1, h2, h3, h4, h5⟩ := h
  have hr : r < 6 := (List.getElem?_eq_some_iff.1 hu).1
  have : r = 0 ∨ r = 1 ∨ r = 2 ∨ r = 3 ∨ r = 4 ∨ r = 5 := by omega
  rcases this with rfl | rfl | rfl | rfl | rfl | rfl <;> (simp [fnC] at hu; subst hu) <;> assumption
theorem FnsAt.sl {w : World} {v : Value} {n : Nat} {F : Nat → Fn} (h : FnsAt w v n F) : SlAt w 6 v n (fnCs F) := by
  obtain ⟨A, c, rfl, _, hc⟩ := h
  refine ⟨A, c, rfl, fun _ => rfl, fun h0 => ?_⟩
  obtain ⟨b, o, rfl, hb, hc⟩ := hc h0
  refine ⟨b, o, rfl, hb, fun i hi r u hu => ?_⟩
  have := (hc i hi).1.six r u hu
  rwa [Nat.add_assoc] at this
theorem OwnG.fns {w : World} {base n : Nat} {v : Value} {F : Nat → Fn} (h : OwnG w base 29 6 v n (fnCs F)) (hF : ∀ i, i < n → FnR (F i)) : FnsAt w v n F :=
  OwnG.row h (fun _ => rfl) fun _ _ i hi hc => ⟨⟨hc 0 _ rfl, hc 1 _ rfl, hc 2 _ rfl, hc 3 _ rfl, hc 4 _ rfl, hc 5 _ rfl⟩, hF i hi⟩
theorem FnsAt.R {w : World} {v : Value} {n : Nat} {F : Nat → Fn} (h : FnsAt w v n F) : ∀ i, i < n → FnR (F i) := fun i hi => by
  obtain ⟨_, _, _, _, hc⟩ := h
  obtain ⟨_, _, _, _, hc⟩ := hc (by omega)
  exact (hc i hi).2
theorem FnsAt.setOther {w : World} {g o n c : Nat} {F : Nat → Fn} (h : FnsAt w (.slice (some ⟨g, o, none⟩) n c) n F) {a : Addr} (u : Value) (ha : a.block ≠ g) : FnsAt (w.setCell a u) (.slice (some ⟨g, o, none⟩) n c) n F :=
  RowAt.setOther h u fun _ _ hC => ⟨hC.1.keep fun _ => cell_setOther ha, hC.2⟩
theorem step_appF {P : Program} {ops : Array Oper} {o : Oper} {a : Act} {w : World} {K : Act → World → Prop} {Q : Exit → Act → World → Prop} {E : Prop} (hP : P = Try.prog)
    (hg : o.guard = none) (s x : Operand) (hop : o.op = Op.call { callee := Callee.builtin Builtin.append, args := #[s, x], argTypes := #[23, 23] })
    (A : Option Addr) (n : Nat) (F : Nat → Fn) (hs : a.eval s = .slice A n n) (hF : FnsAt w (.slice A n n) n F) (f : Fn)
    (gg c : Nat) (hx : a.eval x = .slice (some ⟨gg, 0, none⟩) 1 c) (hsrc : FnLies w gg 0 f) (hgg : gg < w.heap.size) (hn : n ≤ 1000000) (hR : FnR f)
    (hK : ∀ g' cap w', w.heap.size ≤ g' → FnsAt w' (.slice (some ⟨g', 0, none⟩) (n + 1) cap) (n + 1) (extF F n f) → Below w.heap.size w w' → K (a.put o.dst (.slice (some ⟨g', 0, none⟩) (n + 1) cap)) w') :
    if Region.wanted o (yielded ops a.tmps) = true then Oper.wp P o a w K Q else E := by
  subst hP
  obtain ⟨i0, hi, hz0, hz1, hz2⟩ := info_parts info_fun
  have hsl : SlAt w 6 (.slice (some ⟨gg, 0, none⟩) 1 c) 1 (fun _ => fnC f) := ⟨_, _, rfl, fun _ => rfl, fun _ => ⟨gg, 0, rfl, hgg, fun i hi r u hu => by
    obtain rfl : i = 0 := by omega
    have := hsrc.six r u hu
    simpa using this⟩⟩
  refine step_appG hg s x _ hop 29 i0 _ 6 56 Try.underlying23 hi hz0 hz1 hz2 rfl (by decide) A n _ _ hs hF.sl gg c hx hsl ?_ hn (by omega) ?_
  · intro u hu
    simp [fnC] at hu
    rcases hu with rfl | rfl | rfl | rfl | rfl | rfl <;> rfl
  · intro v' w' hown hb
    obtain ⟨g', cap, rfl, hge, _⟩ := World.ownsRow.form hown (by omega)
    refine hK g' cap w' hge ?_ hb
    have : OwnG w' w.heap.size 29 6 _ (n + 1) (fnCs (extF F n f)) := hown.congr fun i hi => by
      show (if i < n then fnC (F i) else fnC f) = fnC (if i < n then F i else f)
      split <;> rfl
    exact this.fns fun i hi => by
      unfold extF
      split
      · exact hF.R i (by assumption)
      · exact hR
set_option maxHeartbeats 2000000 in
theorem AddFun_yes (sv fv mv : Value) (g : Sg) (f : Fn) (w : World) (hG : SgAt w sv fv mv g) (hf : FewG g) (hn : FnR f) (h : afI g f = 0) :
    Calls Try.prog 14 #[.agg #[sv, fv, mv], fnV f] w fun e w' => ∃ v', e = .returned (.tuple #[.agg #[sv, v', mv], .int .i64 0]) ∧ SgAt w' sv v' mv (g.addF f) ∧ Below w.heap.size w w' := by
  have hG' := Lib.hid hG
  unfold fnV
  obtain ⟨W, hW⟩ : ∃ W, W = ((w.alloc (.cells #[sv, fv, mv] 26)).alloc (.cells #[.string f.name, .int .i64 f.len, .int .i64 f.a0, .int .i64 f.a1, .int .i64 f.a2, .int .i64 f.res] 29)).alloc (.cells #[.slice none 0 0, .slice none 0 0, .slice none 0 0] 26) := ⟨_, rfl⟩
  have hx0 : Bx w (fgbox w sv fv mv f) W := by rw [hW]; exact (fgbox_bx w sv fv mv f).skip _
  have hr0 : Free3 W (w.heap.size + 2) := by
    have := Free3.new ((w.alloc (.cells #[sv, fv, mv] 26)).alloc (.cells #[.string f.name, .int .i64 f.len, .int .i64 f.a0, .int .i64 f.a1, .int .i64 f.a2, .int .i64 f.res] 29)) (.slice none 0 0) (.slice none 0 0) (.slice none 0 0) 26
    rw [← hW] at this
    simpa using this
  have hq0 : Free3 W w.heap.size := by rw [hW]; exact ((Free3.new w sv fv mv 26).step ((Below.refl _ _).alloc (Nat.le_refl _) _)).step ((Below.refl _ _).alloc (Nat.le_refl _) _)
  have hns := hf.ns
  have hnf := hf.nf
  have hGW := hG.below hx0.bel
  obtain ⟨A, c, rfl, ⟨hc1, hc2⟩, -⟩ := hG.1
  obtain ⟨FA, fc, rfl, ⟨hf1, hf2⟩, -⟩ := hG.2.1
  obtain ⟨MA, mc, rfl, -, -⟩ := hG.2.2
  have hfu0 := fun x => fun_any A g.ns c (.slice FA g.nf fc) (.slice MA g.nm mc) f x (by omega)
  unfold fnV at hfu0
  have hfu := Lib.hid hfu0
  have hAd := Lib.hid fun x (hb : Below W.heap.size W x) => add_any _ _ _ g f.name false (funB g.ns f) g.nf 12 x (hGW.below hb) hf hn.name
  have hn' := Lib.hid hn
  have hri : Hid (afI g f = addI g f.name false (funB g.ns f) g.nf 12) := rfl
  rw [← hri.out, h] at hAd
  clear h hfu0
  generalize funB g.ns f = fb at *
  have hb0 : Below W.heap.size W W.drew := (Below.refl _ _).drew
  have hKp : ∀ {x : World}, Below W.heap.size W x → (x.cell? ⟨w.heap.size + 1, 0, none⟩ = some (.string f.name) ∧ x.cell? ⟨w.heap.size + 1, 1, none⟩ = some (.int .i64 f.len) ∧ x.cell? ⟨w.heap.size + 1, 2, none⟩ = some (.int .i64 f.a0) ∧ x.cell? ⟨w.heap.size + 1, 3, none⟩ = some (.int .i64 f.a1) ∧
      x.cell? ⟨w.heap.size + 1, 4, none⟩ = some (.int .i64 f.a2) ∧ x.cell? ⟨w.heap.size + 1, 5, none⟩ = some (.int .i64 f.res) ∧ x.cell? ⟨w.heap.size, 0, none⟩ = some (.slice A g.ns c) ∧ x.cell? ⟨w.heap.size, 1, none⟩ = some (.slice FA g.nf fc) ∧ x.cell? ⟨w.heap.size, 2, none⟩ = some (.slice MA g.nm mc)) := fun hb => fgbox_cells (hx0.step hb)
  have hx0' := Lib.hid hx0
  have hr0' := Lib.hid hr0
  have hq0' := Lib.hid hq0
  have hW' := Lib.hid hW
  clear hx0 hr0 hq0 hGW hG hW hri hn
  go_enter Try.func14, Try.ntmps14
  go_wp2_with fail
  rw [← hW'.out]
  go_region_held3 (fun x => x.cell? ⟨w.heap.size + 1, 0, none⟩ = some (.string f.name) ∧ x.cell? ⟨w.heap.size + 1, 1, none⟩ = some (.int .i64 f.len) ∧ x.cell? ⟨w.heap.size + 1, 2, none⟩ = some (.int .i64 f.a0) ∧ x.cell? ⟨w.heap.size + 1, 3, none⟩ = some (.int .i64 f.a1) ∧
      x.cell? ⟨w.heap.size + 1, 4, none⟩ = some (.int .i64 f.a2) ∧ x.cell? ⟨w.heap.size + 1, 5, none⟩ = some (.int .i64 f.res) ∧ x.cell? ⟨w.heap.size, 0, none⟩ = some (.slice A g.ns c) ∧ x.cell? ⟨w.heap.size, 1, none⟩ = some (.slice FA g.nf fc) ∧ x.cell? ⟨w.heap.size, 2, none⟩ = some (.slice MA g.nm mc))
    (first | exact hKp hb0 | exact hKp hb7 | exact hKp hb8 | fail)
    (first | (go_at_call 39; (with_reducible refine (hfu.out _).mono ?_); rintro e w7 ⟨rfl, hb7⟩; replace hb7 := hb0.trans hb7) | (go_at_call 35; (with_reducible refine (hAd.out _ hb7).mono ?_); rintro e w8 ⟨rfl, hb8⟩; replace hb8 := hb7.trans (hb8.mono hb7.size)) | fail)
  all_goals (have hr8 := Lib.hid (hr0'.out.step hb8); have hx8 := Lib.hid (hx0'.out.step hb8); have hq8 := Lib.hid (hq0'.out.step hb8); have hzz := hb8.size; have q8 := fgbox_cells hx8.out; clear hb8 hb7)
  all_goals (unfold fgCells at q8; obtain ⟨k0, k1, k2, k3, k4, k5, k6, k7, k8⟩ := q8)
  all_goals (have hbX := ((Below.refl w8.heap.size w8).alloc (Nat.le_refl _) (.cells #[.string f.name, .int .i64 f.len, .int .i64 f.a0, .int .i64 f.a1, .int .i64 f.a2, .int .i64 f.res] 29)).drew)
  all_goals (have hX1 : Hid (FnsAt ((w8.alloc (.cells #[.string f.name, .int .i64 f.len, .int .i64 f.a0, .int .i64 f.a1, .int .i64 f.a2, .int .i64 f.res] 29)).drew) (.slice FA g.nf g.nf) g.nf g.F) := (RowAt.pre ((hG'.out.2.1.below hx8.out.bel).below hbX) (Nat.le_refl _) g.nf ⟨Nat.le_refl _, by omega⟩))
  all_goals (have hX2 : Hid (FnLies ((w8.alloc (.cells #[.string f.name, .int .i64 f.len, .int .i64 f.a0, .int .i64 f.a1, .int .i64 f.a2, .int .i64 f.res] 29)).drew) w8.heap.size 0 f) := ⟨by simp, by simp, by simp, by simp, by simp, by simp⟩)
  all_goals (have kX : (w8.alloc (.cells #[.string f.name, .int .i64 f.len, .int .i64 f.a0, .int .i64 f.a1, .int .i64 f.a2, .int .i64 f.res] 29)).cell? ⟨w.heap.size, 1, none⟩ = some (.slice FA g.nf fc) := (World.cell?_alloc_lt _ _ _ hq8.out.2.2.2.2.2.2).trans k7)
  all_goals (have hbX' := Lib.hid hbX; clear hbX)
  all_goals go_wp2_with fail
  all_goals go_region_law (refine step_appF rfl rfl _ _ rfl FA g.nf g.F rfl hX1.out f w8.heap.size 1 rfl hX2.out (by simp) (by omega) hn'.out ?_; intro g' cap w9 hge hst hb9; have hst' := Lib.hid hst; have hb89 := hbX'.out.trans (hb9.mono hbX'.out.size); have hr9 := Lib.hid (hr8.out.step hb89); have hq9 := Lib.hid (hq8.out.step hb89); have hx9 := Lib.hid (hx8.out.step hb89); obtain ⟨⟨u0, z0⟩, ⟨u1, z1⟩, ⟨u2, z2⟩, f0, f1, f2, hz⟩ := hr9.out; obtain ⟨_, _, _, _, f3, _, hz5⟩ := hq9.out; have j9 := fgbox_cells hx9.out; unfold fgCells at j9; obtain ⟨_, _, _, _, _, _, j6, j7, j8⟩ := j9; clear hb89 hb9 hst)
  all_goals (have hge' : w8.heap.size < g' := by have h := hge; first | omega | (simp at h; omega))
  all_goals clear hge
  all_goals go_wp2_with fail
  all_goals (have hr6 : Free3 (w9.setCell ⟨w.heap.size, 1, none⟩ (.slice (some ⟨g', 0, none⟩) (g.nf + 1) cap)) (w.heap.size + 2) :=
    ⟨⟨u0, (cell_setOther (by simp)).trans z0⟩, ⟨u1, (cell_setOther (by simp)).trans z1⟩, ⟨u2, (cell_setOther (by simp)).trans z2⟩, (World.frozen?_setCell _ _ _ _).trans f0, (World.frozen?_setCell _ _ _ _).trans f1, (World.frozen?_setCell _ _ _ _).trans f2, by simpa using hz⟩)
  all_goals (have hbw : Below w.heap.size w (w9.setCell ⟨w.heap.size, 1, none⟩ (.slice (some ⟨g', 0, none⟩) (g.nf + 1) cap)) := hx9.out.bel.setCell (Nat.le_refl _) _)
  all_goals (have hbf := Free3.bel (b := w.heap.size + 2) hbw (by omega) (.slice A g.ns c) (.slice (some ⟨g', 0, none⟩) (g.nf + 1) cap) (.slice MA g.nm mc))
  all_goals (refine bodyPost_ret (results_sig2 rfl _ _ (w.heap.size + 2) (.slice A g.ns c) (.slice (some ⟨g', 0, none⟩) (g.nf + 1) cap) (.slice MA g.nm mc) rfl (hr6.set _ _ _)) rfl ⟨_, rfl, ⟨hG'.out.1.below hbf, ?_, hG'.out.2.2.below hbf⟩, hbf⟩)
  all_goals (have hz8 := hr8.out.2.2.2.2.2.2; exact (((hst'.out.setOther _ (by show w.heap.size ≠ g'; omega)).setOther _ (by show w.heap.size + 2 ≠ g'; omega)).setOther _ (by show w.heap.size + 2 ≠ g'; omega)).setOther _ (by show w.heap.size + 2 ≠ g'; omega))
end Go.Proofs.Ythkbekfdjfmmbaa
