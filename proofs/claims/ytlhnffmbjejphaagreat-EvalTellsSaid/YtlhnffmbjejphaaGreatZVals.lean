/- eval.Values. -/
import Derived.Test.YtlhnffmbjejphaaGreatZWayD
import Derived.Test.YtlhnffmbjejphaaGreatZEvPToAllW
import Derived.Test.YtlhnffmbjejphaaGreatZTyTab
import Derived.Test.YtlhnffmbjejphaaGreatZNodesI
import Derived.Deep.CutRange
import Derived.Deep.RegionHeld3
import Derived.BigGuardPart
import Derived.Test.YtlhnffmbjejphaaGreatZMarks
namespace Go.Proofs.YtlhnffmbjejphaaGreat
open Go.RowKit Go.Shelf
set_option maxRecDepth 1000000
attribute [local go_sem] Oper.semAt_some

theorem run_loadInts (w : World) (g : Nat) (v : Value) (hc : w.cell? ⟨g, 0, none⟩ = some v) : (loadVar 27 ⟨g, 0, none⟩).run Tryz.prog w = .ok v w := by
  go_simp
theorem run_loadBls (w : World) (g : Nat) (v : Value) (hc : w.cell? ⟨g, 0, none⟩ = some v) : (loadVar 38 ⟨g, 0, none⟩).run Tryz.prog w = .ok v w := by
  go_simp
theorem results_vals {fn : Func} {p q u : Tmp} (h : fn.results = #[.cell p 27, .cell q 38, .tmp u]) (tmps : Array Value) (w : World) (g1 g2 : Nat) (v1 v2 : Value)
    (hp : tmps.getD p undef = .pointer (some ⟨g1, 0, none⟩)) (hq : tmps.getD q undef = .pointer (some ⟨g2, 0, none⟩)) (h1 : w.cell? ⟨g1, 0, none⟩ = some v1) (h2 : w.cell? ⟨g2, 0, none⟩ = some v2) : (results fn tmps).run Tryz.prog w = .ok (.tuple #[v1, v2, tmps.getD u undef]) w := by
  have hp' : tmps[p]?.getD undef = .pointer (some ⟨g1, 0, none⟩) := by simpa using hp
  have hq' : tmps[q]?.getD undef = .pointer (some ⟨g2, 0, none⟩) := by simpa using hq
  simp [results, h, hp', hq', asAddr, run_loadInts w g1 v1 h1, run_loadBls w g2 v2 h2]
theorem boxed_step {x y : World} {b : Nat} {t : TypeId} {v : Value} (h : Boxed x b t v) (hb : Below x.heap.size x y) : Boxed y b t v := (hb.block b h.lt).trans h
theorem boxed_other {x : World} {b g o : Nat} {t : TypeId} {v u : Value} (h : Boxed x b t v) (hne : b ≠ g) : Boxed (x.setCell ⟨g, o, none⟩ u) b t v := (Below.heap_setCell x ⟨g, o, none⟩ u b hne).trans h
theorem info_bool : (Tryz.prog.info? 4).map (fun i => (i.zero, i.size, i.bytes)) = some (some (.bool false), 1, 1) := by kernel_rfl
theorem Keep3.alloc {A1 A2 B : Nat} {W W' : World} (h : Keep3 A1 A2 B W W') (o : Obj) (hB : B ≤ W.heap.size := by exact Nat.le_refl _) : Keep3 A1 A2 B W (W'.alloc o) :=
  ⟨by have := h.size; simp; omega, fun q h1 h2 h3 => (heap_alloc_old W' o (by have := h.size; omega)).trans (h.block q h1 h2 h3)⟩
theorem cellsK.keep3 {K : List (Nat × Nat × Value)} {A1 A2 B : Nat} {x y : World} (h : cellsK K x) (hk : Keep3 A1 A2 B x y) (hK : ∀ a ∈ K, a.1 ≠ A1 ∧ a.1 ≠ A2 ∧ a.1 < B) : cellsK K y := by
  induction K with
  | nil => trivial
  | cons a K ih =>
    obtain ⟨b, o, v⟩ := a
    obtain ⟨⟨h0, h1⟩, h2⟩ := h
    have hh := hK (b, o, v) (by simp)
    exact ⟨⟨(hk.cell (p := ⟨b, o, none⟩) hh.1 hh.2.1 hh.2.2).trans h0, Nat.lt_of_lt_of_le h1 hk.size⟩, ih h2 fun a ha => hK a (by simp [ha])⟩
theorem gmK_mem {G : Nat} {v0 v1 v2 v3 v4 : Value} : ∀ a ∈ rowK G [v0, v1, v2, v3, v4] 0 ++ wayK (G + 1) G, G ≤ a.1 ∧ a.1 ≤ G + 12 := by
  intro a ha
  simp [rowK, wayK] at ha
  rcases ha with rfl | rfl | rfl | rfl | rfl | rfl | rfl | rfl | rfl | rfl | rfl | rfl | rfl | rfl | rfl | rfl <;> simp <;> omega
theorem gmK_ge {G : Nat} {v0 v1 v2 v3 v4 : Value} : ∀ a ∈ rowK G [v0, v1, v2, v3, v4] 0 ++ wayK (G + 1) G, G ≤ a.1 := fun a ha => (gmK_mem a ha).1
theorem gmK_le {G : Nat} {v0 v1 v2 v3 v4 : Value} : ∀ a ∈ rowK G [v0, v1, v2, v3, v4] 0 ++ wayK (G + 1) G, a.1 ≤ G + 12 := fun a ha => (gmK_mem a ha).2
/-- The boxes of Values. -/
def vaK (w : World) (sv fv mv zv wv tv : Value) : List (Nat × Nat × Value) := [(w.heap.size + 2, 0, tv), (w.heap.size + 1, 0, zv), (w.heap.size + 1, 1, wv), (w.heap.size, 0, sv), (w.heap.size, 1, fv), (w.heap.size, 2, mv)]
structure VaB (w : World) (sv fv mv zv wv tv lv ov : Value) (x : World) : Prop where
  bx : Bx w (vaK w sv fv mv zv wv tv) x
  l : Boxed x (w.heap.size + 3) 27 lv
  o : Boxed x (w.heap.size + 4) 38 ov
section
variable {w x y : World} {sv fv mv zv wv tv lv ov : Value}
theorem VaB.step (h : VaB w sv fv mv zv wv tv lv ov x) (hb : Below x.heap.size x y) : VaB w sv fv mv zv wv tv lv ov y := ⟨h.bx.step hb, boxed_step h.l hb, boxed_step h.o hb⟩
theorem vaB_bx (w : World) (sv fv mv zv wv tv : Value) : VaB w sv fv mv zv wv tv (.slice none 0 0) (.slice none 0 0) (((((w.alloc (.cells #[sv, fv, mv] 26)).alloc (.cells #[zv, wv] 30)).alloc (.cells #[tv] 33)).alloc (.cells #[.slice none 0 0] 27)).alloc (.cells #[.slice none 0 0] 38)) := by
  have h := ((((Bx.nil w).row #[sv, fv, mv] 26).row #[zv, wv] 30).row #[tv] 33)
  simp only [rowK, World.size_alloc, List.append_nil, List.cons_append, List.nil_append] at h
  refine ⟨(h.skip _).skip _, ?_, ?_⟩
  · have := (Boxed.new (((w.alloc (.cells #[sv, fv, mv] 26)).alloc (.cells #[zv, wv] 30)).alloc (.cells #[tv] 33)) 27 (.slice none 0 0)).alloc (.cells #[.slice none 0 0] 38)
    simp only [World.size_alloc] at this
    exact this
  · have := Boxed.new ((((w.alloc (.cells #[sv, fv, mv] 26)).alloc (.cells #[zv, wv] 30)).alloc (.cells #[tv] 33)).alloc (.cells #[.slice none 0 0] 27)) 38 (.slice none 0 0)
    simp only [World.size_alloc] at this
    exact this
theorem VaB.cells (h : VaB w sv fv mv zv wv tv lv ov x) : x.cell? ⟨w.heap.size + 2, 0, none⟩ = some tv ∧ x.cell? ⟨w.heap.size + 1, 0, none⟩ = some zv ∧ x.cell? ⟨w.heap.size + 1, 1, none⟩ = some wv ∧ x.cell? ⟨w.heap.size, 0, none⟩ = some sv ∧ x.cell? ⟨w.heap.size, 1, none⟩ = some fv ∧ x.cell? ⟨w.heap.size, 2, none⟩ = some mv ∧
    x.cell? ⟨w.heap.size + 3, 0, none⟩ = some lv ∧ x.cell? ⟨w.heap.size + 4, 0, none⟩ = some ov ∧ x.frozen? ⟨w.heap.size + 3, 0, none⟩ = false ∧ x.frozen? ⟨w.heap.size + 4, 0, none⟩ = false := by
  obtain ⟨⟨k0, -⟩, ⟨k1, -⟩, ⟨k2, -⟩, ⟨k3, -⟩, ⟨k4, -⟩, ⟨k5, -⟩, -⟩ := h.bx.cells
  exact ⟨k0, k1, k2, k3, k4, k5, h.l.cell, h.o.cell, h.l.frozen, h.o.frozen⟩
theorem vaK_lt {w : World} {sv fv mv zv wv tv : Value} : ∀ a ∈ vaK w sv fv mv zv wv tv, a.1 < w.heap.size + 3 := by
  intro a ha
  simp [vaK] at ha
  rcases ha with rfl | rfl | rfl | rfl | rfl | rfl <;> simp
theorem VaB.setL (h : VaB w sv fv mv zv wv tv lv ov x) (l' : Value) : VaB w sv fv mv zv wv tv l' ov (x.setCell ⟨w.heap.size + 3, 0, none⟩ l') :=
  ⟨⟨h.bx.cells.set fun a ha => by have := vaK_lt a ha; omega, h.bx.bel.setCell (p := ⟨w.heap.size + 3, 0, none⟩) (by show w.heap.size ≤ w.heap.size + 3; omega) _⟩, h.l.set l', boxed_other h.o (by omega)⟩
theorem VaB.setO (h : VaB w sv fv mv zv wv tv lv ov x) (o' : Value) : VaB w sv fv mv zv wv tv lv o' (x.setCell ⟨w.heap.size + 4, 0, none⟩ o') :=
  ⟨⟨h.bx.cells.set fun a ha => by have := vaK_lt a ha; omega, h.bx.bel.setCell (p := ⟨w.heap.size + 4, 0, none⟩) (by show w.heap.size ≤ w.heap.size + 4; omega) _⟩, boxed_other h.l (by omega), h.o.set o'⟩
theorem VaB.keep3 {A1 A2 B : Nat} (h : VaB w sv fv mv zv wv tv lv ov x) (hk : Keep3 A1 A2 B x y) (hb : Below w.heap.size w y) (h1 : w.heap.size + 4 < A1) (h2 : w.heap.size + 4 < A2) (hB : w.heap.size + 4 < B) : VaB w sv fv mv zv wv tv lv ov y :=
  ⟨⟨h.bx.cells.keep3 hk fun a ha => by have := vaK_lt a ha; omega, hb⟩, (hk.block _ (by omega) (by omega) (by omega)).trans h.l, (hk.block _ (by omega) (by omega) (by omega)).trans h.o⟩
/-- Both results stored. -/
theorem VaB.set (h : VaB w sv fv mv zv wv tv lv ov x) (l' o' : Value) : VaB w sv fv mv zv wv tv l' o' ((x.setCell ⟨w.heap.size + 3, 0, none⟩ l').setCell ⟨w.heap.size + 4, 0, none⟩ o') := by
  refine ⟨⟨(h.bx.cells.set fun a ha => ?_).set fun a ha => ?_, (h.bx.bel.setCell (p := ⟨w.heap.size + 3, 0, none⟩) (by show w.heap.size ≤ w.heap.size + 3; omega) _).setCell (p := ⟨w.heap.size + 4, 0, none⟩) (by show w.heap.size ≤ w.heap.size + 4; omega) _⟩, boxed_other (h.l.set l') (by omega), (boxed_other h.o (by omega)).set o'⟩
  · have := vaK_lt a ha; omega
  · have := vaK_lt a ha; omega
end
theorem cell_lt {w : World} {b o : Nat} {v : Value} (h : w.cell? ⟨b, o, none⟩ = some v) : b < w.heap.size := by
  by_cases hlt : b < w.heap.size
  · exact hlt
  · exfalso
    unfold World.cell? at h
    dsimp only at h
    rw [Array.getElem?_eq_none (by omega)] at h
    cases h
theorem nodes_stops (m : Nat) (hm1 : 1 ≤ m) (A1 A2 B1 n₀ n c b o : Nat) (N : Nat → Nd) (w : World) (h1 : w.cell? ⟨B1, 0, none⟩ = some (.slice (some ⟨b, o, none⟩) n c)) (hB1 : B1 < w.heap.size) (hnd : ∀ i, i < n → NdIn w b (o + i * 8) (N i)) (hn : n ≤ 1000000) (g4 : b < n₀) (d1 : b ≠ A1) (d2 : b ≠ A2) (hn₀ : n₀ ≤ w.heap.size) :
    SeqStopsK Fence.wide m Tryz.prog 69 #[.pointer (some ⟨B1, 0, none⟩)] (encN (n := n) N) (Keep3 A1 A2 n₀) (fun ys => plsL ys = List.range n) (fun _ => True) n w :=
  fun l J Jx W hW hJ _ hY h0 => nodesI_in m hm1 l A1 A2 B1 n₀ n c b o N J Jx hY W ((hW.cell (p := ⟨B1, 0, none⟩) hB1).trans h1) (fun i hi => (hnd i hi).keep fun j => hW.cell (p := ⟨b, j, none⟩) (Nat.lt_of_lt_of_le g4 hn₀)) hn g4 d1 d2 (Nat.le_trans hn₀ hW.size)
    (fun s A o hs => hJ s A _ none hs (World.grownBy_alloc A o none) (fun r e => by cases e)) h0
/-- Between two rounds: the rows hold what has come. -/
structure VaI (g : Sg) (W : Wd) (N : Nat → Nd) (n lb ob : Nat) (w W0 : World) (f : St) (x : World) : Prop where
  l : x.rowIs lb 3 n (fun j => .int .i64 (f j).1)
  o : x.rowIs ob 4 n (fun j => .bool (f j).2)
  k : Keep3 lb ob W0.heap.size W0 x
  b : Below w.heap.size w x
/-- Within a round: the rows, k of the node's Args having been asked. -/
structure VaJ (f : St) (e : Nd) (k n x lb ob : Nat) (w W1 y : World) : Prop where
  b : Below w.heap.size w y
  l : y.rowIs lb 3 n (fun j => .int .i64 (f j).1)
  o : y.rowIs ob 4 n (fun j => .bool (if j = x then ((f x).2 || overE f e k) else (f j).2))
  k : Keep3 lb ob W1.heap.size W1 y
set_option maxHeartbeats 4000000 in
theorem Values_any (sv fv mv zv wv tv : Value) (g : Sg) (W : Wd) (n : Nat) (N : Nat → Nd) (w : World) (hG : SgAt w sv fv mv g) (hf : FewG g) (hW : WdAt w zv wv W) (hw : FewW W) (hv : NdsAt w tv n N) (hn : n ≤ 1000000) :
    Calls Tryz.prog 9 #[.agg #[sv, fv, mv], .agg #[zv, wv], .agg #[tv]] w (ValsP g W n N w) := by
  have hG' := Lib.hid hG
  have hf' := Lib.hid hf
  have hW' := Lib.hid hW
  have hw' := Lib.hid hw
  have hv' := Lib.hid hv
  have hn' := Lib.hid hn
  obtain ⟨A, c, rfl, -, -⟩ := hG.1
  obtain ⟨FA, fc, rfl, -, -⟩ := hG.2.1
  obtain ⟨MA, mc, rfl, -, -⟩ := hG.2.2
  obtain ⟨ZA, zc, rfl, -, -, -⟩ := hW.1
  obtain ⟨WA, wq, rfl, -, -⟩ := hW.2
  obtain ⟨TA, tc, rfl, hcap, hRn, hcs⟩ := hv
  have hcs' := Lib.hid hcs
  have hRn' := Lib.hid hRn
  have hcap' := Lib.hid hcap
  have hx := Lib.hid (vaB_bx w (.slice A g.ns c) (.slice FA g.nf fc) (.slice MA g.nm mc) (.slice ZA W.nz zc) (.slice WA W.nf wq) (.slice TA n tc))
  have hE : Hid (valsE g W n N = if checkT n N ≠ 0 then 2 else if mayW g W = false then 2 else if tabT g n N ≠ 0 then 33 else 0) := rfl
  have hBad : Hid (∀ er w', valsE g W n N = er → er ≠ 0 → Below w.heap.size w w' → ValsP g W n N w (.returned (.tuple #[.slice none 0 0, .slice none 0 0, .int .i64 er])) w') := fun er w' he h0 hb => by
    unfold ValsP
    rw [he]
    exact ⟨⟨_, _, rfl, fun h => absurd h h0, fun _ => ⟨rfl, rfl⟩⟩, hb⟩
  have hOk : Hid (∀ (A : Option Addr) vo w', valsE g W n N = 0 → IntsAt w' (.slice A n n) n (fun j => (evF g W N n j).1) → BlsAt w' vo n (fun j => (evF g W N n j).2) → Below w.heap.size w w' → ValsP g W n N w (.returned (.tuple #[.slice A n n, vo, .int .i64 0])) w') := fun A vo w' he h1 h2 hb => by
    unfold ValsP
    rw [he]
    exact ⟨⟨_, _, rfl, fun _ => ⟨h1, h2, _, rfl⟩, fun h => absurd rfl h⟩, hb⟩
  clear hG hf hW hw hcs hRn hcap
  have hCk := Lib.hid (Check_any _ n N _ (hv'.out.below hx.out.bx.bel) hn'.out)
  have ht := Lib.hid (check_cases n N)
  obtain ⟨k0, k1, k2, k3, k4, k5, k6, k7, k8, k9⟩ := hx.out.cells
  refine (callsIn_wide (n := 5)).1 ?_
  refine callsIn_of_wp_marks Tryz.func9 rfl trivial ?_ rfl
  simp only [Tryz.ntmps9, List.size_toArray, List.length_cons, List.length_nil, Nat.reduceAdd, Nat.reduceSub, Array.replicate_succ, Array.replicate_zero, List.push_toArray, List.append_toArray, List.nil_append, List.cons_append]
  refine wpIn_wide.2 ?_
  go_wp2_with fail
  refine hCk.out.mono ?_
  rintro e w1 ⟨rfl, hb1⟩
  have hx1 := Lib.hid (hx.out.step hb1)
  clear hb1 hCk hx k0 k1 k2 k3 k4 k5 k6 k7 k8 k9
  obtain ⟨k0, k1, k2, k3, k4, k5, k6, k7, k8, k9⟩ := hx1.out.cells
  by_cases hck : checkT n N = 0
  case neg =>
    have h2 : checkT n N = 2 := by rcases ht.out with h | h; exact absurd h hck; exact h
    have hF : Hid (valsE g W n N = 2) := by unfold Hid; rw [hE.out, if_pos hck]
    rw [h2]
    clear h2 hck
    go_wp2_with fail
    refine leaves_marks [] _ (Nat.le_refl _) (Marks.nil _ _) fun w' hw' => ?_
    have hx2 := (hx1.out.set (.slice none 0 0) (.slice none 0 0)).step hw'
    obtain ⟨k0, k1, k2, k3, k4, k5, k6, k7, k8, k9⟩ := hx2.cells
    exact ⟨_, results_vals (p := 6) (q := 7) (u := 8) rfl _ _ (w.heap.size + 3) (w.heap.size + 4) _ _ rfl rfl k6 k7, hBad.out 2 _ hF.out (by decide) hx2.bx.bel⟩
  rw [hck]
  have hcp := Lib.hid (check_zero hck)
  have hE2 : Hid (valsE g W n N = if mayW g W = false then 2 else if tabT g n N ≠ 0 then 33 else 0) := by unfold Hid; rw [hE.out, if_neg (fun h => h hck)]
  have hM := Lib.hid (VMay_any _ _ _ _ _ g W w1 (hG'.out.below hx1.out.bx.bel) hf'.out (hW'.out.below hx1.out.bx.bel) hw'.out)
  clear hck hE ht
  cases hq : mayW g W with
  | false =>
    have hF : Hid (valsE g W n N = 2) := by unfold Hid; rw [hE2.out, if_pos hq]
    rw [hq] at hM
    clear hq
    go_wp2_with fail
    refine hM.out.mono ?_
    rintro e w2 ⟨rfl, hb2⟩
    have hx2 := Lib.hid (hx1.out.step hb2)
    clear k0 k1 k2 k3 k4 k5 k6 k7 k8 k9
    obtain ⟨k0, k1, k2, k3, k4, k5, k6, k7, k8, k9⟩ := hx2.out.cells
    go_wp2_with fail
    refine leaves_marks [] _ (Nat.le_refl _) (Marks.nil _ _) fun w' hw' => ?_
    have hx3 := (hx2.out.set (.slice none 0 0) (.slice none 0 0)).step hw'
    obtain ⟨k0, k1, k2, k3, k4, k5, k6, k7, k8, k9⟩ := hx3.cells
    exact ⟨_, results_vals (p := 6) (q := 7) (u := 8) rfl _ _ (w.heap.size + 3) (w.heap.size + 4) _ _ rfl rfl k6 k7, hBad.out 2 _ hF.out (by decide) hx3.bx.bel⟩
  | true =>
  have hmay := Lib.hid hq
  rw [hq] at hM
  have hE3 : Hid (valsE g W n N = if tabT g n N ≠ 0 then 33 else 0) := by unfold Hid; rw [hE2.out, if_neg (by rw [hq]; simp)]
  clear hq hE2
  go_wp2_with fail
  refine hM.out.mono ?_
  rintro e w2 ⟨rfl, hb2⟩
  have hx2 := Lib.hid (hx1.out.step hb2)
  clear k0 k1 k2 k3 k4 k5 k6 k7 k8 k9 hb2 hM hx1
  obtain ⟨k0, k1, k2, k3, k4, k5, k6, k7, k8, k9⟩ := hx2.out.cells
  have hT := Lib.hid (TTable_any _ _ _ _ g n N w2 (hG'.out.below hx2.out.bx.bel) hf'.out (hv'.out.below hx2.out.bx.bel) hn'.out)
  by_cases htt : tabT g n N = 0
  case neg =>
    have hF : Hid (valsE g W n N = 33) := by unfold Hid; rw [hE3.out, if_pos htt]
    have d1 : (tabT g n N != 0) = true := by simpa using htt
    clear htt
    go_wp2_with fail
    refine hT.out.mono ?_
    rintro e w3 ⟨rfl, hb3⟩
    have hx3 := Lib.hid (hx2.out.step hb3)
    clear k0 k1 k2 k3 k4 k5 k6 k7 k8 k9
    obtain ⟨k0, k1, k2, k3, k4, k5, k6, k7, k8, k9⟩ := hx3.out.cells
    go_wp2_with fail
    refine leaves_marks [] _ (Nat.le_refl _) (Marks.nil _ _) fun w' hw' => ?_
    have hx4 := (hx3.out.set (.slice none 0 0) (.slice none 0 0)).step hw'
    obtain ⟨k0, k1, k2, k3, k4, k5, k6, k7, k8, k9⟩ := hx4.cells
    exact ⟨_, results_vals (p := 6) (q := 7) (u := 8) rfl _ _ (w.heap.size + 3) (w.heap.size + 4) _ _ rfl rfl k6 k7, hBad.out 33 _ hF.out (by decide) hx4.bx.bel⟩
  rw [htt] at hT
  have hF : Hid (valsE g W n N = 0) := by unfold Hid; rw [hE3.out, if_neg (fun h => h htt)]
  have hev : Hid (EvOk g W n N) := ⟨hmay.out, hcp.out, fun i hi => by
    by_cases hu : upTo n (fun i => okNd g N (N i)) = true
    · exact (upTo_iff _ _).1 hu i hi
    · unfold tabT at htt
      rw [if_neg (by rw [mayW_check hmay.out]; simp), if_neg (fun h => h (check_yes hcp.out)), if_neg hu] at htt
      exact absurd htt (by decide)⟩
  clear htt hE3 hBad
  go_wp2_with fail
  refine hT.out.mono ?_
  rintro e w3 ⟨rfl, hb3⟩
  have hx3 := Lib.hid (hx2.out.step hb3)
  clear k0 k1 k2 k3 k4 k5 k6 k7 k8 k9 hb3 hT hx2
  obtain ⟨k0, k1, k2, k3, k4, k5, k6, k7, k8, k9⟩ := hx3.out.cells
  go_wp2_with (go_at_call 26; refine (ways_any _ _).mono ?_)
  rintro e w4 ⟨rfl, hbw, hsz⟩
  obtain ⟨G1, hG1⟩ : ∃ G1, G1 = w3.heap.size := ⟨_, rfl⟩
  simp only [World.size_alloc, ← hG1] at hbw hsz ⊢
  have hgm := (hx3.out.bx.row #[.slice A g.ns c, .slice FA g.nf fc, .slice MA g.nm mc, .slice ZA W.nz zc, .slice WA W.nf wq] 77)
  have hb3 : Below w3.heap.size w3 w4 := ((Below.refl _ _).alloc (Nat.le_refl _) _).trans (hbw.bel.mono (by simp))
  have hx4 := Lib.hid (hx3.out.step hb3)
  have hgc : Hid (cellsK (rowK G1 [.slice A g.ns c, .slice FA g.nf fc, .slice MA g.nm mc, .slice ZA W.nz zc, .slice WA W.nf wq] 0 ++ wayK (G1 + 1) G1) w4) := by
    have h1 := hgm.left.cells.step hbw.bel
    rw [← hG1] at h1
    have h2 := hbw.cells
    obtain ⟨a0, a1, a2, a3, a4, -⟩ := h1
    exact ⟨a0, a1, a2, a3, a4, h2⟩
  have hszw : w.heap.size + 5 ≤ G1 := by have := (Boxed.lt hx3.out.o); omega
  clear k0 k1 k2 k3 k4 k5 k6 k7 k8 k9 hgm hbw hb3 hx3
  have hG1' := Lib.hid hG1
  clear hG1
  -- the row of ways in a box of its own
  have hx5 := Lib.hid (hx4.out.step ((Below.refl _ w4).alloc (Nat.le_refl _) (.cells (wayA (G1 + 1)) 74)))
  have hgc5 := Lib.hid (hgc.out.step ((Below.refl _ w4).alloc (Nat.le_refl _) (.cells (wayA (G1 + 1)) 74)))
  have har5 : Hid ((w4.alloc (.cells (wayA (G1 + 1)) 74)).heap[w4.heap.size]? = some (.cells (wayA (G1 + 1)) 74 (0, 0))) := heap_alloc_new _ _
  have hmk1 := run_make_row' (P := Tryz.prog) 27 3 (.int .i64 0) 8 Tryz.underlying27 info_int rfl .i64 .i64 n (by omega) (by omega)
  have hmk2 := run_make_row' (P := Tryz.prog) 38 4 (.bool false) 1 Tryz.underlying38 info_bool rfl .i64 .i64 n (by omega) (by omega)
  obtain ⟨w5, hw5⟩ : ∃ w5, w5 = w4.alloc (.cells (wayA (G1 + 1)) 74) := ⟨_, rfl⟩
  obtain ⟨AB, hAB⟩ : ∃ AB, AB = w4.heap.size := ⟨_, rfl⟩
  rw [← hw5] at hx5 hgc5 har5
  have hs5 : w5.heap.size = AB + 1 := by rw [hw5, hAB]; simp
  rw [← hAB] at har5
  have hw5' := Lib.hid hw5
  have hAB' := Lib.hid hAB
  have hAG : G1 + 13 ≤ AB := by rw [hAB]; omega
  clear hx4 hgc hw5 hAB hsz
  go_upto_region 6 with (refine wpList_store_last rfl rfl (.tmp 9) (.tmp 34) rfl w4.heap.size rfl rfl rfl way_size rfl (way_one (G1 + 1)) ?_)
  rw [← hw5'.out, ← hAB'.out]
  obtain ⟨k0, k1, k2, k3, k4, k5, k6, k7, k8, k9⟩ := hx5.out.cells
  have hn0 : n ≤ 9223372036854775807 := by omega
  have cA := fun o => (hx5.out.step ((Below.refl _ w5).alloc (Nat.le_refl _) o)).cells
  have cB := fun o o' => ((hx5.out.step ((Below.refl _ w5).alloc (Nat.le_refl _) o)).step ((Below.refl _ (w5.alloc o)).alloc (Nat.le_refl _) o')).cells
  have c1 := fun o => (cA o).1
  have c6 := fun o => (cA o).2.2.2.2.2.2.1
  have c7 := fun o => (cA o).2.2.2.2.2.2.2.1
  have c8 := fun o => (cA o).2.2.2.2.2.2.2.2.1
  have c9 := fun o => (cA o).2.2.2.2.2.2.2.2.2
  have cs1 := fun o u o' => ((hx5.out.step ((Below.refl _ w5).alloc (Nat.le_refl _) o)).setL u |>.step ((Below.refl _ _).alloc (Nat.le_refl _) o')).cells
  have d1 := fun o u o' => (cs1 o u o').1
  have d2 := fun o u o' => (cs1 o u o').2.2.2.2.2.2.1
  have d3 := fun o u o' => (cs1 o u o').2.2.2.2.2.2.2.1
  have d4 := fun o u o' => (cs1 o u o').2.2.2.2.2.2.2.2.1
  have d5 := fun o u o' => (cs1 o u o').2.2.2.2.2.2.2.2.2
  have cs2 := fun o u o' => ((hx5.out.step ((Below.refl _ w5).alloc (Nat.le_refl _) o)).setO u |>.step ((Below.refl _ _).alloc (Nat.le_refl _) o')).cells
  have f1 := fun o u o' => (cs2 o u o').1
  have f2 := fun o u o' => (cs2 o u o').2.2.2.2.2.2.1
  have f3 := fun o u o' => (cs2 o u o').2.2.2.2.2.2.2.1
  have f4 := fun o u o' => (cs2 o u o').2.2.2.2.2.2.2.2.1
  have f5 := fun o u o' => (cs2 o u o').2.2.2.2.2.2.2.2.2
  clear cs1 cs2
  have c2 := fun o o' => (cB o o').2.2.2.2.2.2.1
  have c3 := fun o o' => (cB o o').2.2.2.2.2.2.2.1
  have c4 := fun o o' => (cB o o').2.2.2.2.2.2.2.2.1
  have c5 := fun o o' => (cB o o').2.2.2.2.2.2.2.2.2
  clear cA cB
  have hgcK := Lib.hid fun (x : World) (hk : Keep3 (w.heap.size + 3) (w.heap.size + 4) w5.heap.size w5 x) => show cellsK (rowK G1 [.slice A g.ns c, .slice FA g.nf fc, .slice MA g.nm mc, .slice ZA W.nz zc, .slice WA W.nf wq] 0 ++ wayK (G1 + 1) G1) x from hgc5.out.keep3 hk fun a ha => by
    have h1 := gmK_ge a ha
    have h2 := gmK_le a ha
    omega
  have harK := Lib.hid fun (x : World) (hk : Keep3 (w.heap.size + 3) (w.heap.size + 4) w5.heap.size w5 x) => (hk.block AB (by omega) (by omega) (by omega)).trans har5.out
  go_cut [38] from 35 to 42 (fun u x => ∃ lb ob, u = .slice (some ⟨lb, 0, none⟩) n n ∧ lb ≠ ob ∧ AB < lb ∧ AB < ob ∧ x.rowIs lb 3 n (fun _ => .int .i64 0) ∧ x.rowIs ob 4 n (fun _ => .bool false) ∧ Hid (VaB w (.slice A g.ns c) (.slice FA g.nf fc) (.slice MA g.nm mc) (.slice ZA W.nz zc) (.slice WA W.nf wq) (.slice TA n tc) (.slice (some ⟨lb, 0, none⟩) n n) (.slice (some ⟨ob, 0, none⟩) n n) x)
    ∧ Hid (cellsK (rowK G1 [.slice A g.ns c, .slice FA g.nf fc, .slice MA g.nm mc, .slice ZA W.nz zc, .slice WA W.nf wq] 0 ++ wayK (G1 + 1) G1) x) ∧ Hid (x.heap[AB]? = some (.cells (wayA (G1 + 1)) 74 (0, 0))))
  case first =>
    go_region
    all_goals go_wp2_with fail
    all_goals go_meet
    all_goals rw [← hs5]
    · refine ⟨w5.heap.size, w5.heap.size + 1, rfl, by omega, by omega, by omega, ?_, ?_, ?_, hgcK.out _ ?_, harK.out _ ?_⟩
      · exact ((((World.rowIs_made w5 _ n 3).alloc _).of_block (Below.heap_setCell _ _ _ _ (by dsimp only; omega))).of_block (Below.heap_setCell _ _ _ _ (by dsimp only; omega))).drew
      · have h := World.rowIs_made (w5.alloc (.cells (madeCells #[.int .i64 0] n) 3)) (.bool false) n 4
        rw [World.size_alloc] at h
        exact ((h.of_block (Below.heap_setCell _ _ _ _ (by dsimp only; omega))).of_block (Below.heap_setCell _ _ _ _ (by dsimp only; omega))).drew
      · exact ((((hx5.out.step ((Below.refl _ _).alloc (Nat.le_refl _) _)).step ((Below.refl _ _).alloc (Nat.le_refl _) _)).setL _).setO _).step (Below.refl _ _).drew
      · exact (((((Keep3.refl _ _ _ _).alloc _).alloc _).set1 _ _).set2 _ _).drew
      · exact (((((Keep3.refl _ _ _ _).alloc _).alloc _).set1 _ _).set2 _ _).drew
    · refine ⟨w5.heap.size, w5.heap.size + 1, rfl, by omega, by omega, by omega, ?_, ?_, ?_, hgcK.out _ ?_, harK.out _ ?_⟩
      · exact ((((World.rowIs_made w5 _ n 3).of_block (Below.heap_setCell _ _ _ _ (by dsimp only; omega))).alloc _).of_block (Below.heap_setCell _ _ _ _ (by dsimp only; omega))).drew
      · have h := World.rowIs_made ((w5.alloc (.cells (madeCells #[.int .i64 0] n) 3)).setCell ⟨w.heap.size + 3, 0, none⟩ (.slice (some ⟨w5.heap.size, 0, none⟩) n n)) (.bool false) n 4
        rw [World.size_setCell, World.size_alloc] at h
        exact (h.of_block (Below.heap_setCell _ _ _ _ (by dsimp only; omega))).drew
      · exact ((((hx5.out.step ((Below.refl _ _).alloc (Nat.le_refl _) _)).setL _).step ((Below.refl _ _).alloc (Nat.le_refl _) _)).setO _).step (Below.refl _ _).drew
      · exact (((((Keep3.refl _ _ _ _).alloc _).set1 _ _).alloc _).set2 _ _).drew
      · exact (((((Keep3.refl _ _ _ _).alloc _).set1 _ _).alloc _).set2 _ _).drew
    · refine ⟨w5.heap.size + 1, w5.heap.size, rfl, by omega, by omega, by omega, ?_, ?_, ?_, hgcK.out _ ?_, harK.out _ ?_⟩
      · have h := World.rowIs_made (w5.alloc (.cells (madeCells #[.bool false] n) 4)) (.int .i64 0) n 3
        rw [World.size_alloc] at h
        exact ((h.of_block (Below.heap_setCell _ _ _ _ (by dsimp only; omega))).of_block (Below.heap_setCell _ _ _ _ (by dsimp only; omega))).drew
      · exact ((((World.rowIs_made w5 _ n 4).alloc _).of_block (Below.heap_setCell _ _ _ _ (by dsimp only; omega))).of_block (Below.heap_setCell _ _ _ _ (by dsimp only; omega))).drew
      · exact ((((hx5.out.step ((Below.refl _ _).alloc (Nat.le_refl _) _)).step ((Below.refl _ _).alloc (Nat.le_refl _) _)).setL _).setO _).step (Below.refl _ _).drew
      · exact (((((Keep3.refl _ _ _ _).alloc _).alloc _).set1 _ _).set2 _ _).drew
      · exact (((((Keep3.refl _ _ _ _).alloc _).alloc _).set1 _ _).set2 _ _).drew
  case rest =>
    obtain ⟨lb, ob, rfl, hlo, hal, hao, hrl, hro, hxC, hgcC, harC⟩ := hcut
    clear hmk1 hmk2 hgcK harK c1 c2 c3 c4 c5 c6 c7 c8 c9 d1 d2 d3 d4 d5 f1 f2 f3 f4 f5 k0 k1 k2 k3 k4 k5 k6 k7 k8 k9 hx5 hgc5 har5
    obtain ⟨k0, k1, k2, k3, k4, k5, k6, k7, k8, k9⟩ := hxC.out.cells
    go_wp2_with (go_at_call 27; refine (nodes_any _ _).mono ?_; rintro e w6 ⟨rfl, rfl⟩)
    obtain ⟨tb, tf, rfl, htb, hnd⟩ := hcs'.out (by have := hcp.out.two; omega)
    obtain ⟨W0, hW0⟩ : ∃ W0, W0 = wc.alloc (.cells #[.slice (some ⟨tb, tf, none⟩) n tc] 33) := ⟨_, rfl⟩
    have hbel0 : Below wc.heap.size wc W0 := by rw [hW0]; exact (Below.refl _ _).alloc (Nat.le_refl _) _
    have hx0 := Lib.hid (hxC.out.step hbel0)
    have hgc0 := Lib.hid (hgcC.out.step hbel0)
    have hl0 : lb < wc.heap.size := by
      have h := hrl.cell (i := 0) (by have := hcp.out.two; omega)
      exact cell_lt h
    have ho0 : ob < wc.heap.size := by
      have h := hro.cell (i := 0) (by have := hcp.out.two; omega)
      exact cell_lt h
    have har0 := Lib.hid ((hbel0.block AB (Array.getElem?_eq_some_iff.1 harC.out).1).trans harC.out)
    have hrl0 := hrl.of_block (hbel0.block lb hl0)
    have hro0 := hro.of_block (hbel0.block ob ho0)
    have hB1 : W0.cell? ⟨wc.heap.size, 0, none⟩ = some (.slice (some ⟨tb, tf, none⟩) n tc) := by rw [hW0]; simp
    have hsz0 : W0.heap.size = wc.heap.size + 1 := by rw [hW0]; simp
    rw [← hW0]
    have hnd0 := Lib.hid fun i (hi : i < n) => (hnd i hi).keep (w' := W0) fun j => hx0.out.bx.bel.cell (p := ⟨tb, j, none⟩) htb
    have hW0' := Lib.hid hW0
    clear hrl hro hbel0 hW0 hxC hgcC harC hnd k0 k1 k2 k3 k4 k5 k6 k7 k8 k9 hs5
    refine (wpIn_wide (n := 5)).1 ?_
    refine wpIn_rangeFunc_ownH (n := 5) rfl (by decide) (gf := 69) (lb := #[.pointer (some ⟨wc.heap.size, 0, none⟩)]) rfl trivial (enters_of Tryz.func69 (by kernel_rfl) rfl)
      (nodes_stops 4 (by decide) lb ob wc.heap.size W0.heap.size n tc tb tf N W0 hB1 (by omega) hnd0.out hn (by have := hx0.out.bx.bel.size; omega) (by omega) (by omega) (Nat.le_refl _))
      Keep3.trans (fun W' l o o' h1 h2 h3 h4 => Keep3.b (Nat.le_refl _) W' l o o' h1 h2 h3 h4) (Below.refl _ _) (fun _ => rfl)
      (fun pre W' => VaI g W N n lb ob w W0 (foldS g W N (plsL pre)) W')
      (fun _ _ _ => False)
      (ownFrom_of_below (fun s A B hs hAB => ⟨hs.l.of_block (hAB.block _ (by omega)), hs.o.of_block (hAB.block _ (by omega)), hs.k.trans (.of_below hAB (Nat.le_refl _)), hs.b.trans (hAB.mono (by have := hx0.out.bx.bel.size; omega))⟩) (fun s A hs => hs.k.size))
      (fun _ _ _ _ _ hs _ _ => hs)
      ⟨hrl0, hro0, Keep3.refl _ _ _ _, hx0.out.bx.bel⟩
      (fun x a' W' => ∃ Bx, W0.heap.size ≤ Bx ∧ W'.heap[Bx]? = some (.cells (ndC (N x.1)).toArray 53 (0, 0)) ∧ a' = { tmps := #[Value.agg #[Value.slice A g.ns c, Value.slice FA g.nf fc, Value.slice MA g.nm mc], Value.agg #[Value.slice ZA W.nz zc, Value.slice WA W.nf wq], Value.agg #[Value.slice (some ⟨tb, tf, none⟩) n tc], Value.pointer (some { block := w.heap.size, off := 0 }), Value.pointer (some { block := w.heap.size + 1, off := 0 }), Value.pointer (some { block := w.heap.size + 1 + 1, off := 0 }), Value.pointer (some { block := w.heap.size + 1 + 1 + 1, off := 0 }), Value.pointer (some { block := w.heap.size + 1 + 1 + 1 + 1, off := 0 }), Value.int IntKind.i64 0, Value.pointer (some { block := AB, off := 0 }), .int .i64 (x.1 : Int), .pointer (some ⟨Bx, 0, none⟩), undef, undef, undef, undef, undef, Value.agg #[Value.slice (some ⟨tb, tf, none⟩) n tc], Value.int IntKind.i64 0, Value.bool false, Value.bool false, Value.agg #[Value.slice A g.ns c, Value.slice FA g.nf fc, Value.slice MA g.nm mc], Value.agg #[Value.slice ZA W.nz zc, Value.slice WA W.nf wq], Value.bool true, Value.bool false, Value.bool false, Value.agg #[Value.slice A g.ns c, Value.slice FA g.nf fc, Value.slice MA g.nm mc], Value.agg #[Value.slice (some ⟨tb, tf, none⟩) n tc], Value.int IntKind.i64 0, Value.bool false, Value.agg #[Value.slice A g.ns c, Value.slice FA g.nf fc, Value.slice MA g.nm mc], Value.agg #[Value.slice ZA W.nz zc, Value.slice WA W.nf wq], Value.agg #[Value.slice A g.ns c, Value.slice FA g.nf fc, Value.slice MA g.nm mc, Value.slice ZA W.nz zc, Value.slice WA W.nf wq], Value.pointer (some { block := G1, off := 0 }), Value.agg (wayA (G1 + 1)), u35, u36, u37, Value.slice (some { block := lb, off := 0 }) n n, u39, u40, u41, u42, Value.agg #[Value.slice (some ⟨tb, tf, none⟩) n tc], Value.func (Fn.func 69) #[] #[Value.pointer (some { block := wc.heap.size, off := 0 })], .int .i64 (x.1 : Int), .agg #[.int .i8 (N x.1).op, .int .i8 (N x.1).len, .int .i64 (N x.1).a0, .int .i64 (N x.1).a1, .int .i64 (N x.1).a2, .int .i64 (N x.1).sort, .int .i64 (N x.1).fn, .int .i64 (N x.1).num], undef, undef, undef, undef, undef, undef, undef, undef, undef, undef, undef, undef, undef, undef, undef, undef, undef, undef, undef, undef, undef, undef, undef, undef, undef, undef, undef, undef, undef, undef, undef, undef, undef, undef, undef, undef, undef, undef, undef, undef, undef, undef, undef, undef, undef, undef, undef, undef, undef, undef, undef, undef, undef, undef, undef, undef, undef], defers := [] })
      ?hAx ?assign ?body ?done ?stop
    case hAx =>
      rintro x a' ⟨⟩ A B row ⟨Bx, h1, h2, h3⟩ hg hr
      refine ⟨Bx, h1, (hg.block Bx (Array.getElem?_eq_some_iff.1 h2).1 (fun e => ?_)).trans h2, h3⟩
      obtain ⟨_, o, ho, hc⟩ := hr Bx e.symm
      rw [h2] at ho
      cases ho
      cases hc
    case assign =>
      intro l pre x W' K hi hK
      dsimp only [encN]
      gi_wp2
      exact hK _ _ ((KeepsOthers.alloc _ _).from _) ((Keep3.refl _ _ _ _).alloc _ hi.k.size) ⟨hi.l.alloc _, hi.o.alloc _, hi.k.alloc _, hi.b.alloc hi.b.size _⟩ ⟨W'.heap.size, hi.k.size, heap_alloc_new _ _, rfl⟩
    case body =>
      rintro l pre ⟨x, hxn⟩ a' W1 hl ⟨r, hr⟩ hI ⟨Bx, hBx, hbx, rfl⟩ hlen
      dsimp only at hbx ⊢
      have hty := Lib.hid (fold_typed hev.out (plsL pre) (plsL_lt pre))
      have hsn := Lib.hid (show foldS g W N (plsL (pre ++ [⟨x, hxn⟩])) = stepE g W N (foldS g W N (plsL pre)) x by rw [plsL_snoc, foldS_snoc])
      generalize foldS g W N (plsL pre) = f at hI hty hsn
      have hNR := Lib.hid (hRn'.out x hxn)
      have hst := Lib.hid (hcp.out.all x hxn)
      have harg := Lib.hid fun (k : Nat) (hk : (k : Int) < (N x).len) => hcp.out.argB hxn hk
      have hlen0 := hst.out.len0
      have hlen3 := hst.out.len3
      obtain ⟨m, hm⟩ : ∃ m : Nat, (N x).len = m := ⟨(N x).len.toNat, by omega⟩
      have hm3 : (m : Int) ≤ 3 := by omega
      have hm3n : m ≤ 3 := by omega
      have hm0 : (0 : Int) ≤ (m : Int) := by omega
      have hwl : IntKind.i64.wrap (N x).len = (N x).len := by rw [IntKind.wrap_i64]; omega
      have hm1 : (N x).len.toNat = m := by omega
      have hm' := Lib.hid hm
      have hal : Tryz.prog.arrayLen 51 = 3 := by kernel_rfl
      have hmk3 : ∀ X : World, (Instr.makeSlice 27 (.int .i64 0) (.int .i64 3)).run Tryz.prog X = .ok (.slice (some ⟨X.heap.size, 0, none⟩) 0 3) (X.alloc (.cells #[.int .i64 0, .int .i64 0, .int .i64 0] 3)) := fun _ => by kernel_rfl
      have hsz1 := hI.k.size
      have hBx1 : Bx < W1.heap.size := (Array.getElem?_eq_some_iff.1 hbx).1
      have hcB := Lib.hid fun j => cell_of_row W1 Bx j _ _ _ hbx
      have q1 := hcB.out 1
      have hx1 := Lib.hid (hx0.out.keep3 hI.k hI.b (by omega) (by omega) (by omega))
      have hgc1 := Lib.hid (hgc0.out.keep3 hI.k fun a ha => by
        have h1 := gmK_ge a ha
        have h2 := gmK_le a ha
        omega)
      have har1 := Lib.hid ((hI.k.block AB (by omega) (by omega) (by omega)).trans har0.out)
      have hJ0 : Hid (VaJ f (N x) 0 n x lb ob w W1 (W1.alloc (.cells #[.int .i64 0, .int .i64 0, .int .i64 0] 3))) :=
        ⟨hI.b.alloc hI.b.size _, hI.l.alloc _, (hI.o.alloc _).congr fun j _ => (by by_cases e : j = x <;> simp [e, overE]), (Keep3.refl _ _ _ _).alloc _⟩
      have hO0 := Lib.hid (own3 W1 W1.heap.size (Nat.le_refl _))
      clear hm har0 hgc0 hx0
      simp only [ndC] at q1
      gi_wp2
      clear hmk3
      gi_loopw [12, 14, 53] (fun v _ i wr => ∃ k : Nat, k ≤ m ∧ i = .int .i64 k ∧ Hid (OwnL wr W1.heap.size v ((List.range k).map (argV f (N x)))) ∧ Hid (VaJ f (N x) k n x lb ob w W1 wr)) (fun _ _ i _ => m - (intOf i).toNat)
      case atStart => exact ⟨0, Nat.zero_le _, rfl, hO0.out, hJ0.out⟩
      case round =>
        clear hO0 hJ0
        obtain ⟨k, hk, rfl, hown, hJ⟩ := hrel
        have hzr := hJ.out.k.size
        have hxr := Lib.hid (hx1.out.keep3 hJ.out.k hJ.out.b (by omega) (by omega) (by omega))
        obtain ⟨-, -, -, -, -, -, k6, k7, -, -⟩ := hxr.out.cells
        by_cases hlt : k < m
        · have i1 : decide ((k : Int) < (m : Int)) = true := decide_eq_true (by omega)
          obtain ⟨ha0, hax, _⟩ := harg.out k (by rw [hm'.out]; omega)
          obtain ⟨aj, haj⟩ : ∃ aj : Nat, (N x).arg k = aj := ⟨((N x).arg k).toNat, by omega⟩
          have hjx : aj < x := by omega
          have pk : wr.cell? ⟨Bx, 2 + k, none⟩ = some (.int .i64 (aj : Int)) := by
            refine (hJ.out.k.cell (p := ⟨Bx, 2 + k, none⟩) (by dsimp only; omega) (by dsimp only; omega) (by dsimp only; omega)).trans ?_
            have := hcB.out (2 + k)
            rw [this, ← haj]
            have : k = 0 ∨ k = 1 ∨ k = 2 := by omega
            rcases this with rfl | rfl | rfl <;> rfl
          have hja : aj < n := by omega
          have rl := hJ.out.l.cell hja
          have hav : Hid (argV f (N x) k = (f aj).1) := by unfold Hid argV; rw [haj]; rfl
          have hov : Hid (overE f (N x) (k + 1) = (overE f (N x) k || (f aj).2)) := by unfold Hid; rw [overE, haj]; rfl
          have hrng : Hid ((List.range (k + 1)).map (argV f (N x)) = (List.range k).map (argV f (N x)) ++ [(f aj).1]) := by unfold Hid; rw [range_snoc, hav.out]
          have hlenk : ((List.range k).map (argV f (N x))).length = k := by simp
          clear ha0 hax haj
          gi_wp2_with (gi_at_builtin; refine wpListIn_app1 rfl rfl _ _ rfl W1.heap.size _ _ (f aj).1 rfl (hown.out.alloc _) wr.heap.size 1 rfl ?c1 ?c2 ?c3 ?_)
          case c1 => simp
          case c2 => omega
          case c3 => simp; omega
          intro v' w4 hown4 hb4 _
          have hJ4 : Hid (VaJ f (N x) k n x lb ob w W1 w4) := ⟨(hJ.out.b.alloc hJ.out.b.size _).trans (hb4.mono (by have := hI.b.size; omega)), (hJ.out.l.alloc _).of_block (hb4.block lb (by omega)), (hJ.out.o.alloc _).of_block (hb4.block ob (by omega)), (hJ.out.k.alloc _).trans (.of_below hb4 (Nat.le_refl _))⟩
          have hx4 := Lib.hid (hx1.out.keep3 hJ4.out.k hJ4.out.b (by omega) (by omega) (by omega))
          have hown4' := Lib.hid hown4
          have hz4 := hJ4.out.k.size
          clear k6 k7 hxr pk rl hown hJ hown4 hb4
          obtain ⟨-, -, -, -, -, -, k6, k7, -, -⟩ := hx4.out.cells
          have ro := hJ4.out.o.cell hxn
          have ra := hJ4.out.o.cell hja
          have rf := hJ4.out.o.frozen x
          rw [if_pos rfl] at ro
          rw [if_neg (by omega)] at ra
          gi_wp2
          have hnx : ∀ p : Bool, p = ((f x).2 || overE f (N x) (k + 1)) → Hid (VaJ f (N x) (k + 1) n x lb ob w W1 (w4.drew.setCell ⟨ob, x, none⟩ (.bool p))) := fun p hp =>
            ⟨hJ4.out.b.drew.setCell (p := ⟨ob, x, none⟩) (by dsimp only; omega) _, hJ4.out.l.drew.of_block (Below.heap_setCell _ _ _ _ (by dsimp only; omega)), (hJ4.out.o.drew.set x _).congr fun j _ => (by
              by_cases e : j = x
              · rw [if_pos e, if_pos e, hp]
              · rw [if_neg e, if_neg e, if_neg e]), hJ4.out.k.drew.set2 _ _⟩
          have hnO : ∀ p : Value, Hid (OwnL (w4.drew.setCell ⟨ob, x, none⟩ p) W1.heap.size v' ((List.range (k + 1)).map (argV f (N x)))) := fun p => by
            rw [hrng.out]
            exact OwnL.setCell (World.ownsRow.drew hown4'.out) (by dsimp only; omega) p
          rw [hov.out] at hnx
          have hnx' := Lib.hid hnx
          have hnO' := Lib.hid hnO
          clear hnx hnO
          generalize (f aj).2 = q at *
          generalize overE f (N x) k = o at *
          generalize (f x).2 = o1 at *
          cases hp : (o1 || o) with
          | true =>
            rw [hp] at ro
            refine wpIn_region_tail 13 WideF.round (by kernel_rfl) (by kernel_rfl) ?_
            simp only [List.take_succ_cons, List.take_zero, List.drop_succ_cons, List.drop_zero]
            repeat still_step
            refine wpStill_nil ?_
            gi_wp2
            go_roundw
            case rel => exact ⟨k + 1, by omega, by go_num, (hnO'.out _).out, (hnx'.out true (by rw [← Bool.or_assoc, hp]; rfl)).out⟩
            case measure => simp [intOf]; omega
          | false =>
            rw [hp] at ro
            refine wpIn_region_tail 13 WideF.round (by kernel_rfl) (by kernel_rfl) ?_
            simp only [List.take_succ_cons, List.take_zero, List.drop_succ_cons, List.drop_zero]
            repeat still_step
            refine wpStill_nil ?_
            gi_wp2
            go_roundw
            case rel => exact ⟨k + 1, by omega, by go_num, (hnO'.out _).out, (hnx'.out q (by rw [← Bool.or_assoc, hp]; rfl)).out⟩
            case measure => simp [intOf]; omega
        · have i1 : decide ((k : Int) < (m : Int)) = false := decide_eq_false (by omega)
          obtain rfl : k = m := by omega
          have ro := hJ.out.o.cell hxn
          rw [if_pos rfl] at ro
          have rf := hJ.out.o.frozen x
          have hro : Hid (VaJ f (N x) k n x lb ob w W1 wr) := hJ.out
          have hstep : Hid (stepE g W N f x = fun j => if j = x then (if ((f x).2 || overE f (N x) k) = true then ((f x).1, true) else if (wayT g W (N x) k (argV f (N x))).2 = true then ((wayT g W (N x) k (argV f (N x))).1, false) else ((f x).1, true)) else f j) := by unfold Hid stepE; rw [hm1]
          generalize hp : ((f x).2 || overE f (N x) k) = p at ro hstep
          have hend : ∀ (y : World) (a9 : Act), (y.rowIs lb 3 n (fun j => .int .i64 (stepE g W N f x j).1)) → (y.rowIs ob 4 n (fun j => .bool (stepE g W N f x j).2)) → Keep3 lb ob W1.heap.size W1 y → Below w.heap.size w y →
              ownPostG (wc.heap.size + 1) (Keep3 lb ob (wc.heap.size + 1)) (fun pre W' => VaI g W N n lb ob w W0 (foldS g W N (plsL pre)) W') (fun x x_1 x_2 => False) (pre ++ [⟨x, hxn⟩]) W1 Exit.normal a9 y := fun y a9 h1 h2 h3 h4 => by
            have h5 : Keep3 lb ob W0.heap.size W1 y := ⟨h3.size, fun q q1 q2 q3 => h3.block q q1 q2 (by omega)⟩
            refine ⟨⟨h3.size, fun q o hq ho _ => ?_⟩, by rw [← hsz0]; exact h5, ?_⟩
            · exact (h3.block q (by omega) (by omega) (Array.getElem?_eq_some_iff.1 ho).1).trans ho
            · dsimp only
              rw [hsn.out]
              exact ⟨h1, h2, hI.k.trans h5, h4⟩
          have hend' := Lib.hid hend
          clear hend
          cases p with
          | true =>
            have hs1 : ∀ j, (stepE g W N f x j).1 = (f j).1 := fun j => by
              rw [hstep.out]
              by_cases e : j = x
              · simp [e]
              · simp [e]
            have hs2 : ∀ j, (stepE g W N f x j).2 = if j = x then true else (f j).2 := fun j => by
              rw [hstep.out]
              by_cases e : j = x
              · simp [e]
              · simp [e]
            have hs1' := Lib.hid hs1
            have hs2' := Lib.hid hs2
            clear hs1 hs2
            gi_wp2
            refine hend'.out _ _ (hro.out.l.congr fun j _ => by rw [hs1'.out]) (hro.out.o.congr fun j _ => ?_) hro.out.k hro.out.b
            rw [hs2'.out, hp]
          | false =>
            have hV : ∀ i : Nat, (i : Int) < (N x).len → isB g.ns W (sortsN N (N x) i) (argV f (N x) i) = true := fun i hi => by
              obtain ⟨h0, h1, _⟩ := harg.out i hi
              exact hty.out _ (by omega)
            have hwp := way_pre hev.out hxn hV
            have hop : 0 ≤ (N x).op ∧ (N x).op ≤ 13 := by
              rcases opw_cases hst.out.kind with h | h | h | h | h | h | h | h | h | h | h | h | h | h <;> omega
            have hints := hown.out.intsF (by omega) (fun i hi => hwp.R i (by rw [hm'.out]; omega))
            have hgcr := hgc1.out.keep3 hJ.out.k fun a ha => by
              have h1 := gmK_ge a ha
              have h2 := gmK_le a ha
              omega
            have harr := (hJ.out.k.block AB (by omega) (by omega) (by omega)).trans har1.out
            have hbxr := (hJ.out.k.block Bx (by omega) (by omega) (by omega)).trans hbx
            have hbw := hJ.out.b
            have hWc := Lib.hid fun (y : World) (hb : Below wr.heap.size wr y) => show Calls Tryz.prog (wayId (N x).op) (#[ndV (N x), u12] ++ wayCap (G1 + 1) (N x).op) y (WayR (wayT g W (N x) k (argV f (N x))) y) by
              have hbwy := hbw.trans (hb.mono hbw.size)
              obtain ⟨⟨g0, -⟩, ⟨g1, -⟩, ⟨g2, -⟩, ⟨g3, -⟩, ⟨g4, -⟩, hwk⟩ := hgcr.step hb
              have hbox := wayK_box hwk
              have := way_call (G1 + 1) G1 (N x) x u12 _ _ _ _ _ g W (argV f (N x)) y hst.out hNR.out hwp (by rw [hm1]; exact hints.below hb) hbox.1 (by have := hb.size; omega) ⟨hbox.2, g0, g1, g2, g3, g4⟩ (by have := hb.size; omega) (hG'.out.below hbwy) hf'.out (hW'.out.below hbwy) hw'.out
              rw [hm1] at this
              exact this
            have hent := wayId_ent (N x).op
            have hKy := Lib.hid fun (y : World) (hb : Below wr.heap.size wr y) => show y.cell? ⟨Bx, 0, none⟩ = some (.int .i8 (N x).op) ∧ y.cell? ⟨Bx, 1, none⟩ = some (.int .i8 (N x).len) ∧ y.cell? ⟨Bx, 2, none⟩ = some (.int .i64 (N x).a0) ∧ y.cell? ⟨Bx, 3, none⟩ = some (.int .i64 (N x).a1) ∧ y.cell? ⟨Bx, 4, none⟩ = some (.int .i64 (N x).a2) ∧ y.cell? ⟨Bx, 5, none⟩ = some (.int .i64 (N x).sort) ∧ y.cell? ⟨Bx, 6, none⟩ = some (.int .i64 (N x).fn) ∧ y.cell? ⟨Bx, 7, none⟩ = some (.int .i64 (N x).num) ∧ y.cell? ⟨AB, (N x).op.toNat, none⟩ = some (.func (.func (wayId (N x).op)) #[] (wayCap (G1 + 1) (N x).op)) by
              have hbxy := (hb.block Bx (Array.getElem?_eq_some_iff.1 hbxr).1).trans hbxr
              have hary := (hb.block AB (Array.getElem?_eq_some_iff.1 harr).1).trans harr
              have c := fun j => cell_of_row y Bx j _ _ _ hbxy
              exact ⟨c 0, c 1, c 2, c 3, c 4, c 5, c 6, c 7, (cell_of_row y AB _ _ _ _ hary).trans (wayA_at hop)⟩
            have ho14 : (N x).op < 14 := by omega
            have ho0 : 0 ≤ (N x).op := hop.1
            have hton : (N x).op.toNat < 14 := by omega
            have hal14 : Tryz.prog.arrayLen 74 = 14 := by kernel_rfl
            generalize wayId (N x).op = KW at *
            generalize wayCap (G1 + 1) (N x).op = CAP at *
            generalize wayT g W (N x) k (argV f (N x)) = r at *
            obtain ⟨r1, r2⟩ := r
            unfold ndV at hWc
            unfold WayR at hWc
            dsimp only at hWc hstep
            clear hV hwp hints hgcr harr hbxr hbw hop q1
            gi_wp2
            refine region_cls_in (fun y => Below wr.heap.size wr y) WideF.round (by kernel_rfl) (by kernel_rfl) (Below.refl _ _).drew ?_
            repeat (first
              | go_big_quiet_skip
              | (go_big_quiet_want; first
                | (go_big_quiet_op; go_big_quiet_on)
                | (unfold Oper.quiet; apply Exists.intro; refine ⟨fun y hy => ?_, ?_⟩; (obtain ⟨c0, c1, c2, c3, c4, c5, c6, c7, c8⟩ := hKy.out y hy; unfold Oper.quietAt; first
                    | (go_simp; exact ⟨rfl, rfl⟩)
                    | (go_simp; exact rfl)
                    | (go_simp; done)
                    | (go_simp; refine (hWc.out y hy).mono ?_; rintro e w' ⟨rfl, hb'⟩; exact ⟨rfl, hy.trans (hb'.mono hy.size)⟩)
                    | fail); go_simp; go_big_quiet_on)))
            refine wpQuiet_nil ?_
            intro w8 hb8
            have hrl8 := hro.out.l.of_block (hb8.block lb (by omega))
            have hro8 := hro.out.o.of_block (hb8.block ob (by omega))
            have hk8 := hro.out.k.trans (.of_below hb8 (by omega))
            have hbw8 := hro.out.b.trans (hb8.mono hro.out.b.size)
            have hx8 := Lib.hid (hx1.out.keep3 hk8 hbw8 (by omega) (by omega) (by omega))
            clear k6 k7 ro rf
            obtain ⟨-, -, -, -, -, -, k6, k7, -, -⟩ := hx8.out.cells
            have ro := hro8.cell hxn
            have rf := hro8.frozen x
            have rl := hrl8.cell hxn
            have rg := hrl8.frozen x
            have hrl8' := Lib.hid hrl8
            have hro8' := Lib.hid hro8
            have hk8' := Lib.hid hk8
            have hbw8' := Lib.hid hbw8
            clear hWc hKy hent hrl8 hro8 hk8 hbw8
            cases r2 with
            | true =>
              have hs1 : ∀ j, (stepE g W N f x j).1 = if j = x then r1 else (f j).1 := fun j => by
                rw [hstep.out]
                by_cases e : j = x
                · simp [e]
                · simp [e]
              have hs2 : ∀ j, (stepE g W N f x j).2 = if j = x then false else (f j).2 := fun j => by
                rw [hstep.out]
                by_cases e : j = x
                · simp [e]
                · simp [e]
              have hs1' := Lib.hid hs1
              have hs2' := Lib.hid hs2
              clear hs1 hs2
              gi_wp2
              refine hend'.out _ _ ?_ ?_ ((hk8'.out.set2 _ _).set1 _ _) ((hbw8'.out.setCell (p := ⟨ob, x, none⟩) (by dsimp only; omega) _).setCell (p := ⟨lb, x, none⟩) (by dsimp only; omega) _)
              · refine ((hrl8'.out.of_block (Below.heap_setCell _ _ _ _ (by dsimp only; omega))).set x _).congr fun j _ => ?_
                rw [hs1'.out]
                by_cases e : j = x
                · rw [if_pos e, if_pos e]
                · rw [if_neg e, if_neg e]
              · refine ((hro8'.out.set x _).of_block (Below.heap_setCell _ _ _ _ (by dsimp only; omega))).congr fun j _ => ?_
                rw [hs2'.out]
                by_cases e : j = x
                · rw [if_pos e, if_pos e]
                · rw [if_neg e, if_neg e, if_neg e]
            | false =>
              have hs1 : ∀ j, (stepE g W N f x j).1 = (f j).1 := fun j => by
                rw [hstep.out]
                by_cases e : j = x
                · simp [e]
                · simp [e]
              have hs2 : ∀ j, (stepE g W N f x j).2 = if j = x then true else (f j).2 := fun j => by
                rw [hstep.out]
                by_cases e : j = x
                · simp [e]
                · simp [e]
              have hs1' := Lib.hid hs1
              have hs2' := Lib.hid hs2
              clear hs1 hs2
              gi_wp2
              refine hend'.out _ _ ?_ ?_ (hk8'.out.set2 _ _) (hbw8'.out.setCell (p := ⟨ob, x, none⟩) (by dsimp only; omega) _)
              · refine (hrl8'.out.of_block (Below.heap_setCell _ _ _ _ (by dsimp only; omega))).congr fun j _ => ?_
                rw [hs1'.out]
              · refine (hro8'.out.set x _).congr fun j _ => ?_
                rw [hs2'.out]
                by_cases e : j = x
                · rw [if_pos e, if_pos e]
                · rw [if_neg e, if_neg e, if_neg e]
    case done =>
      rintro D ys W' hD hys hI hK
      have hxD := Lib.hid (hx0.out.keep3 hI.k hI.b (by omega) (by omega) (by omega))
      rw [hys] at hI
      obtain ⟨hIl, hIo, hIk, hIb⟩ := hI
      have hIl' := Lib.hid hIl
      have hIo' := Lib.hid hIo
      have hKD := Lib.hid hK
      have hsz9 := hIk.size
      clear hIl hIo hIk hK hx0 hgc0 har0 hrl0 hro0 hB1 hnd0
      obtain ⟨k0, k1, k2, k3, k4, k5, k6, k7, k8, k9⟩ := hxD.out.cells
      go_wp2_with fail
      go_region
      all_goals go_wp2_with fail
      all_goals
        refine leaves_marks (B := W0.heap.size) [D] _ (by simp; omega) ⟨by simp, fun D' hD' => ?_⟩ fun w' hw' => ?_
        · obtain rfl : D' = D := by simpa using hD'
          refine ⟨hD, ?_⟩
          show ((W'.setCell _ _).setCell _ _).heap[D']? = _
          exact (Below.heap_setCell _ _ _ _ (by dsimp only; omega)).trans ((Below.heap_setCell _ _ _ _ (by dsimp only; omega)).trans hKD.out)
      all_goals
        have hbX : Below w.heap.size w w' := (((hIb.setCell (p := ⟨w.heap.size + 3, 0, none⟩) (by show w.heap.size ≤ w.heap.size + 3; omega) _).setCell (p := ⟨w.heap.size + 4, 0, none⟩) (by show w.heap.size ≤ w.heap.size + 4; omega) _).drew).trans (hw'.mono (by omega))
        have hx9 := ((hxD.out.set (.slice (some ⟨lb, 0, none⟩) n n) (.slice (some ⟨ob, 0, none⟩) n n)).step (Below.refl _ _).drew).keep3 (A1 := lb) (A2 := ob) (B := W0.heap.size) (.of_below hw' (Nat.le_refl _)) hbX (by omega) (by omega) (by omega)
        obtain ⟨k0, k1, k2, k3, k4, k5, k6, k7, k8, k9⟩ := hx9.cells
        have hrl9 := ((hIl'.out.of_block (Below.heap_setCell _ ⟨w.heap.size + 3, 0, none⟩ (.slice (some ⟨lb, 0, none⟩) n n) _ (by dsimp only; omega))).of_block (Below.heap_setCell _ ⟨w.heap.size + 4, 0, none⟩ (.slice (some ⟨ob, 0, none⟩) n n) _ (by dsimp only; omega))).drew.of_block (hw'.block lb (by omega))
        have hro9 := ((hIo'.out.of_block (Below.heap_setCell _ ⟨w.heap.size + 3, 0, none⟩ (.slice (some ⟨lb, 0, none⟩) n n) _ (by dsimp only; omega))).of_block (Below.heap_setCell _ ⟨w.heap.size + 4, 0, none⟩ (.slice (some ⟨ob, 0, none⟩) n n) _ (by dsimp only; omega))).drew.of_block (hw'.block ob (by omega))
        refine ⟨_, results_vals (p := 6) (q := 7) (u := 8) rfl _ _ (w.heap.size + 3) (w.heap.size + 4) _ _ rfl rfl k6 k7, hOk.out _ _ _ hF.out ⟨_, _, rfl, by omega, fun i hi => isB_R hmay.out (ev_typed hev.out (Nat.le_refl n) i hi), fun _ => ⟨lb, 0, rfl, ?_, fun i hi => ?_⟩⟩ ⟨_, _, rfl, fun _ => ⟨ob, 0, rfl, ?_, fun i hi => ?_⟩⟩ hbX⟩
        · exact cell_lt (hrl9.cell (i := 0) (by omega))
        · rw [Nat.zero_add]; exact hrl9.cell hi
        · exact cell_lt (hro9.cell (i := 0) (by omega))
        · rw [Nat.zero_add]; exact hro9.cell hi
    case stop =>
      rintro D c pre W _ _ h _
      exact h.elim
end Go.Proofs.YtlhnffmbjejphaaGreat
