/- sig.AddSort; append of one element onto a slice that came in, cut to its length. -/
import Derived.Test.YthkbekfdjfmmbaaSigF
import Derived.Deep.RegionLawGrows
import Derived.Laws.ResultCell
namespace Go.Proofs.Ythkbekfdjfmmbaa
open Go.RowKit
set_option maxRecDepth 100000

/-- append of one element onto a slice that is full: a new row. -/
theorem step_appG {P : Program} {ops : Array Oper} {o : Oper} {a : Act} {w : World} {K : Act → World → Prop} {Q : Exit → Act → World → Prop} {E : Prop}
    (hg : o.guard = none) (s x : Operand) (t : TypeId) (hop : o.op = Op.call { callee := Callee.builtin Builtin.append, args := #[s, x], argTypes := #[t, t] })
    (e : TypeId) (i : TypeInfo) (z : Value) (size bytes : Nat) (h1 : P.underlying t = some (.slice e)) (h2 : P.info? e = some i) (h3 : i.zero = some z) (h4 : i.size = size) (h5 : i.bytes = bytes) (h6 : z.cells.size = size) (h7 : 0 < size)
    (A : Option Addr) (n : Nat) (g g' : Nat → List Value) (hs : a.eval s = .slice A n n) (hd : SlAt w size (.slice A n n) n g)
    (gg c : Nat) (hx : a.eval x = .slice (some ⟨gg, 0, none⟩) 1 c) (hsrc : SlAt w size (.slice (some ⟨gg, 0, none⟩) 1 c) 1 g') (h1c : ∀ u ∈ g' 0, u.oneCell' = true) (hn : n ≤ 1000000) (hby : bytes ≤ 1000)
    (hK : ∀ v' w', OwnG w' w.heap.size e size v' (n + 1) (fun i => if i < n then g i else g' (i - n)) → Below w.heap.size w w' → K (a.put o.dst v') w') :
    if Region.wanted o (yielded ops a.tmps) = true then Oper.wp P o a w K Q else E := by
  obtain ⟨A1, c1, e1, hg1, hc1⟩ := hd
  injection e1 with e1 _ e3
  subst e1; subst e3
  obtain ⟨A2, c2, e2, hg2, hc2⟩ := hsrc
  injection e2 with e2 _ e4
  subst e2; subst e4
  obtain ⟨b2, o2, e5, hb2, hc2⟩ := hc2 (by omega)
  injection e5 with e5
  injection e5 with e5 e6 _
  subst e5; subst e6
  have addE : ∀ (b o j : Nat), ((⟨b, o, none⟩ : Addr).add j) = ⟨b, o + j, none⟩ := fun b o j => by
    unfold Addr.add; split
    · next e => rw [e, Nat.add_zero]
    · rfl
  refine step_append_grows (P := P) (K := K) (Q := Q) (ops := ops) (E := E) (w := w) (a := a) (o := o) hg s x t hop e i z size bytes h1 h2 h3 h4 h5 h6 h7 A n n ((List.range n).flatMap g) hs ?_ (flat_len g size hg1 n) ?_
    ⟨gg, 0, none⟩ 1 c (g' 0) hx (by rw [hg2, Nat.one_mul]) ?_ h1c (by omega) (by unfold maxLen; omega) ?_ ?_
  · intro hA
    rcases Nat.eq_zero_or_pos n with h0 | h0
    · exact ⟨h0, h0⟩
    · obtain ⟨b, o, h, _⟩ := hc1 h0
      rw [hA] at h; cases h
  · intro b hb j u hu
    obtain ⟨i, r, hin, hr, rfl, hu'⟩ := flat_at g size hg1 n j u hu
    obtain ⟨b', o', h, _, hcell⟩ := hc1 (by omega)
    rw [hb] at h
    injection h with h
    subst h
    rw [addE]
    exact hcell i hin r u hu'
  · intro j u hu
    rw [addE]
    have := hc2 0 (by omega) j u hu
    simpa using this
  · have : (n + 1) * bytes ≤ (1000000 + 1) * 1000 := Nat.mul_le_mul (by omega) hby
    omega
  · intro v' w' hown hgr
    refine hK v' w' ?_ ((Below.refl w.heap.size w).grown hgr (Nat.le_refl _) (fun k hk => by cases hk))
    unfold OwnG
    rw [← flat_app]
    have : (List.range 1).flatMap g' = g' 0 := by simp
    rw [this]
    exact hown
theorem run_loadSig (w : World) (g : Nat) (s f m : Value) (h0 : w.cell? ⟨g, 0, none⟩ = some s) (h1 : w.cell? ⟨g, 1, none⟩ = some f) (h2 : w.cell? ⟨g, 2, none⟩ = some m) : (loadVar 26 ⟨g, 0, none⟩).run Try.prog w = .ok (.agg #[s, f, m]) w := by
  go_simp
theorem results_sig2 {fn : Func} {p u : Tmp} (h : fn.results = #[.cell p 26, .tmp u]) (tmps : Array Value) (w : World) (g : Nat) (s f m : Value)
    (hp : tmps.getD p undef = .pointer (some ⟨g, 0, none⟩)) (hc : w.cell? ⟨g, 0, none⟩ = some s ∧ w.cell? ⟨g, 1, none⟩ = some f ∧ w.cell? ⟨g, 2, none⟩ = some m) : (results fn tmps).run Try.prog w = .ok (.tuple #[.agg #[s, f, m], tmps.getD u undef]) w := by
  have hp' : tmps[p]?.getD undef = .pointer (some ⟨g, 0, none⟩) := by simpa using hp
  simp [results, h, hp', asAddr, run_loadSig w g s f m hc.1 hc.2.1 hc.2.2, Result.andThen]
/-- A box of three cells may be written. -/
def Free3 (w : World) (b : Nat) : Prop := (∃ v, w.cell? ⟨b, 0, none⟩ = some v) ∧ (∃ v, w.cell? ⟨b, 1, none⟩ = some v) ∧ (∃ v, w.cell? ⟨b, 2, none⟩ = some v) ∧ w.frozen? ⟨b, 0, none⟩ = false ∧ w.frozen? ⟨b, 1, none⟩ = false ∧ w.frozen? ⟨b, 2, none⟩ = false ∧ b < w.heap.size
theorem Free3.step {w w' : World} {b : Nat} (h : Free3 w b) (hb : Below w.heap.size w w') : Free3 w' b := by
  obtain ⟨⟨v0, h0⟩, ⟨v1, h1⟩, ⟨v2, h2⟩, f0, f1, f2, hz⟩ := h
  exact ⟨⟨v0, (hb.cell (p := ⟨b, 0, none⟩) hz).trans h0⟩, ⟨v1, (hb.cell (p := ⟨b, 1, none⟩) hz).trans h1⟩, ⟨v2, (hb.cell (p := ⟨b, 2, none⟩) hz).trans h2⟩, (hb.frozen (p := ⟨b, 0, none⟩) hz).trans f0, (hb.frozen (p := ⟨b, 1, none⟩) hz).trans f1, (hb.frozen (p := ⟨b, 2, none⟩) hz).trans f2, Nat.lt_of_lt_of_le hz hb.size⟩
theorem Free3.new (w : World) (a b c : Value) (t : TypeId) : Free3 (w.alloc (.cells #[a, b, c] t)) w.heap.size := ⟨⟨a, by simp⟩, ⟨b, by simp⟩, ⟨c, by simp⟩, by simp, by simp, by simp, by simp⟩
theorem Free3.set {w : World} {b : Nat} (h : Free3 w b) (s f m : Value) :
    (((w.setCell ⟨b, 0, none⟩ s).setCell ⟨b, 1, none⟩ f).setCell ⟨b, 2, none⟩ m).cell? ⟨b, 0, none⟩ = some s ∧ (((w.setCell ⟨b, 0, none⟩ s).setCell ⟨b, 1, none⟩ f).setCell ⟨b, 2, none⟩ m).cell? ⟨b, 1, none⟩ = some f ∧
    (((w.setCell ⟨b, 0, none⟩ s).setCell ⟨b, 1, none⟩ f).setCell ⟨b, 2, none⟩ m).cell? ⟨b, 2, none⟩ = some m := by
  obtain ⟨⟨v0, h0⟩, ⟨v1, h1⟩, ⟨v2, h2⟩, _⟩ := h
  have ne : ∀ i j : Nat, i ≠ j → (⟨b, i, none⟩ : Addr) ≠ ⟨b, j, none⟩ := fun i j h e => h (by injection e)
  have g1 : (w.setCell ⟨b, 0, none⟩ s).cell? ⟨b, 1, none⟩ = some v1 := (World.cell?_setCell_other _ _ _ _ (ne _ _ (by omega))).trans h1
  have g2 : ((w.setCell ⟨b, 0, none⟩ s).setCell ⟨b, 1, none⟩ f).cell? ⟨b, 2, none⟩ = some v2 := (World.cell?_setCell_other _ _ _ _ (ne _ _ (by omega))).trans ((World.cell?_setCell_other _ _ _ _ (ne _ _ (by omega))).trans h2)
  refine ⟨?_, ?_, World.cell?_setCell_same' _ _ _ (by rw [g2]; rfl)⟩
  · rw [World.cell?_setCell_other _ _ _ _ (ne _ _ (by omega)), World.cell?_setCell_other _ _ _ _ (ne _ _ (by omega))]
    exact World.cell?_setCell_same' _ _ _ (by rw [h0]; rfl)
  · rw [World.cell?_setCell_other _ _ _ _ (ne _ _ (by omega))]
    exact World.cell?_setCell_same' _ _ _ (by rw [g1]; rfl)
theorem Free3.bel {B b : Nat} {w0 w : World} (h : Below B w0 w) (hb : B ≤ b) (s f m : Value) : Below B w0 (((w.setCell ⟨b, 0, none⟩ s).setCell ⟨b, 1, none⟩ f).setCell ⟨b, 2, none⟩ m) :=
  ((h.setCell hb _).setCell hb _).setCell hb _
def sigZ : Value := .agg #[.slice none 0 0, .slice none 0 0, .slice none 0 0]
theorem AddSort_no (sv fv mv : Value) (g : Sg) (name : ByteArray) (w : World) (hG : SgAt w sv fv mv g) (hf : FewG g) (hn : StrR name) (h : addI g name true true g.ns 4 ≠ 0) :
    Calls Try.prog 12 #[.agg #[sv, fv, mv], .string name] w fun e w' => e = .returned (.tuple #[sigZ, .int .i64 (addI g name true true g.ns 4)]) ∧ Below w.heap.size w w' := by
  have hx0 := (gbox_bx w sv fv mv).skip (.cells #[.slice none 0 0, .slice none 0 0, .slice none 0 0] 26)
  have hr0 := Free3.new (w.alloc (.cells #[sv, fv, mv] 26)) (.slice none 0 0) (.slice none 0 0) (.slice none 0 0) 26
  rw [World.size_alloc] at hr0
  have hns := hf.ns
  obtain ⟨A, c, rfl, ⟨hc1, hc2⟩, _⟩ := hG.1
  have hA := Lib.hid (add_any _ _ _ g name true true g.ns 4 _ (hG.below hx0.bel) hf hn)
  have d0 : (addI g name true true g.ns 4 != 0) = true := by simpa using h
  clear h
  generalize addI g name true true g.ns 4 = r at *
  have hx0' := Lib.hid hx0
  have hr0' := Lib.hid hr0
  clear hx0 hr0
  go_enter Try.func12, Try.ntmps12
  go_wp2_with fail
  refine hA.out.mono ?_
  rintro e w3 ⟨rfl, hb3⟩
  have hx3 := Lib.hid (hx0'.out.step hb3)
  have hr3 := Lib.hid (hr0'.out.step hb3)
  obtain ⟨⟨u0, z0⟩, ⟨u1, z1⟩, ⟨u2, z2⟩, f0, f1, f2, hz⟩ := hr3.out
  clear hb3 hx0' hr0'
  go_wp2_with fail
  exact bodyPost_ret (results_sig2 rfl _ _ (w.heap.size + 1) _ _ _ rfl (hr3.out.set _ _ _)) rfl ⟨rfl, Free3.bel hx3.out.bel (by omega) _ _ _⟩

def extS (S : Nat → ByteArray) (n : Nat) (name : ByteArray) (i : Nat) : ByteArray := if i < n then S i else name
def Sg.addS (g : Sg) (name : ByteArray) : Sg := { g with ns := g.ns + 1, S := extS g.S g.ns name }
theorem wpList_appS1 {P : Program} (hP : P = Try.prog) {w : World} {ops : Array Oper} {rest : List Oper} {o : Oper} {a : Act} {Q : Exit → Act → World → Prop} (hgd : o.guard = none) (p q : Operand)
    (ho : o.op = .call { callee := .builtin .append, args := #[p, q], argTypes := #[22, 22] }) (A : Option Addr) (n : Nat) (S : Nat → ByteArray) (hp : a.eval p = .slice A n n) (hS : StrsAt w (.slice A n n) n S)
    (name : ByteArray) (gg c : Nat) (hq : a.eval q = .slice (some ⟨gg, 0, none⟩) 1 c) (hc : w.cell? ⟨gg, 0, none⟩ = some (.string name)) (hgg : gg < w.heap.size) (hn : n ≤ 1000000) (hR : StrR name)
    (h : ∀ g' cap w', w.heap.size ≤ g' → StrsAt w' (.slice (some ⟨g', 0, none⟩) (n + 1) cap) (n + 1) (extS S n name) → Below w.heap.size w w' → wpList P ops Q rest (a.put o.dst (.slice (some ⟨g', 0, none⟩) (n + 1) cap)) w') : wpList P ops Q (o :: rest) a w := by
  subst hP
  obtain ⟨i0, hi, hz0, hz1, hz2⟩ := info_parts info_str
  have hw : Region.wanted o (yielded ops a.tmps) = true := by simp [Region.wanted, hgd]
  refine BigFrame.wpList_want hw fun K hK => ?_
  have hSR : ∀ i, i < n → StrR (S i) := fun i hi => by
    obtain ⟨_, _, _, _, hcs⟩ := hS
    obtain ⟨_, _, _, _, hcs⟩ := hcs (by omega)
    exact (hcs i hi).2
  have hsrc : SlAt w 1 (.slice (some ⟨gg, 0, none⟩) 1 c) 1 (fun _ => [.string name]) := ⟨_, _, rfl, fun _ => rfl, fun _ => ⟨gg, 0, rfl, hgg, fun i hi r u hu => by
    obtain rfl : i = 0 := by omega
    cases r with
    | zero => simp at hu; subst hu; exact hc
    | succ r => simp at hu⟩⟩
  have H := step_appG (P := Try.prog) (K := K) (Q := Q) (ops := ops) (E := True) (w := w) (a := a) (o := o) hgd p q 22 ho 9 i0 _ 1 16 Try.underlying22 hi hz0 hz1 hz2 rfl (by decide) A n _ _ hp hS.sl gg c hq hsrc (by
    intro u hu; simp at hu; subst hu; rfl) hn (by omega) ?_
  · rwa [if_pos hw] at H
  · intro v' w' hown hb
    obtain ⟨g', cap, rfl, hge, _⟩ := World.ownsRow.form hown (by omega)
    refine hK _ _ (h g' cap w' hge ?_ hb)
    have : OwnG w' w.heap.size 9 1 _ (n + 1) (strC (extS S n name)) := hown.congr fun i hi => by
      show (if i < n then [Value.string (S i)] else [Value.string name]) = [Value.string (if i < n then S i else name)]
      split <;> rfl
    exact this.strs fun i hi => by
      unfold extS
      split
      · exact hSR i (by assumption)
      · exact hR
theorem RowAt.setOther {k : Nat} {C : World → Nat → Nat → Nat → Prop} {w : World} {g o n c : Nat} (h : RowAt k C w (.slice (some ⟨g, o, none⟩) n c) n) {a : Addr} (u : Value)
    (hC : ∀ o' i, C w g o' i → C (w.setCell a u) g o' i) : RowAt k C (w.setCell a u) (.slice (some ⟨g, o, none⟩) n c) n := by
  obtain ⟨A, c', e, hn, hc⟩ := h
  refine ⟨A, c', e, hn, fun h0 => ?_⟩
  obtain ⟨b, o', rfl, hlt, hc⟩ := hc h0
  injection e with e1 _ _
  injection e1 with e1
  injection e1 with e1 e2 _
  subst e1; subst e2
  exact ⟨_, _, rfl, by simpa using hlt, fun i hi => hC _ _ (hc i hi)⟩
theorem cell_setOther {w : World} {a : Addr} {u : Value} {g j : Nat} (ha : a.block ≠ g) : (w.setCell a u).cell? ⟨g, j, none⟩ = w.cell? ⟨g, j, none⟩ := World.cell?_setCell_other _ _ _ _ (fun e => ha (by rw [e]))
theorem StrsAt.setOther {w : World} {g o n c : Nat} {S : Nat → ByteArray} (h : StrsAt w (.slice (some ⟨g, o, none⟩) n c) n S) {a : Addr} (u : Value) (ha : a.block ≠ g) : StrsAt (w.setCell a u) (.slice (some ⟨g, o, none⟩) n c) n S :=
  RowAt.setOther h u fun _ _ hC => ⟨(cell_setOther ha).trans hC.1, hC.2⟩
set_option maxHeartbeats 1000000 in
theorem AddSort_yes (sv fv mv : Value) (g : Sg) (name : ByteArray) (w : World) (hG : SgAt w sv fv mv g) (hf : FewG g) (hn : StrR name) (h : addI g name true true g.ns 4 = 0) :
    Calls Try.prog 12 #[.agg #[sv, fv, mv], .string name] w fun e w' => ∃ v', e = .returned (.tuple #[.agg #[v', fv, mv], .int .i64 0]) ∧ SgAt w' v' fv mv (g.addS name) ∧ Below w.heap.size w w' := by
  have hx0 := (gbox_bx w sv fv mv).skip (.cells #[.slice none 0 0, .slice none 0 0, .slice none 0 0] 26)
  have hr0 := Free3.new (w.alloc (.cells #[sv, fv, mv] 26)) (.slice none 0 0) (.slice none 0 0) (.slice none 0 0) 26
  have hq0 := (Free3.new w sv fv mv 26).step ((Below.refl _ _).alloc (Nat.le_refl _) (.cells #[.slice none 0 0, .slice none 0 0, .slice none 0 0] 26))
  rw [World.size_alloc] at hr0
  have hns := hf.ns
  have hG' := Lib.hid hG
  obtain ⟨A, c, rfl, ⟨hc1, hc2⟩, -⟩ := hG.1
  obtain ⟨FA, fc, rfl, -, -⟩ := hG.2.1
  obtain ⟨MA, mc, rfl, -, -⟩ := hG.2.2
  have hA0 := add_any _ _ _ g name true true g.ns 4 _ (hG.below hx0.bel) hf hn
  rw [h] at hA0
  have hA := Lib.hid hA0
  have hx0' := Lib.hid hx0
  have hr0' := Lib.hid hr0
  have hq0' := Lib.hid hq0
  clear hx0 hr0 h hq0 hG hA0
  go_enter Try.func12, Try.ntmps12
  go_wp2_with fail
  refine hA.out.mono ?_
  rintro e w3 ⟨rfl, hb3⟩
  have hx3 := Lib.hid (hx0'.out.step hb3)
  have hr3 := Lib.hid (hr0'.out.step hb3)
  have hq3 := Lib.hid (hq0'.out.step hb3)
  obtain ⟨k1, k2, k3⟩ := gbox_cells (w := w) (sv := .slice A g.ns c) (fv := .slice FA g.nf fc) (mv := .slice MA g.nm mc) hx3.out
  have hz3 := hr3.out.2.2.2.2.2.2
  clear hb3 hx0' hr0' hq0'
  have hcc : (g.ns : Int) ≤ (c : Int) := by omega
  have hS3 : Hid (StrsAt (w3.alloc (.cells #[.string name] 9)) (.slice A g.ns g.ns) g.ns g.S) := (RowAt.pre (hG'.out.1.below hx3.out.bel) (Nat.le_refl _) g.ns ⟨Nat.le_refl _, by omega⟩).below (StrIn.stays _) ((Below.refl _ _).alloc (Nat.le_refl _) _)
  go_wp2_with (at_builtin; refine wpList_appS1 rfl rfl _ _ rfl A g.ns g.S rfl hS3.out name _ _ rfl (by simp) (by simp) (by omega) hn ?_)
  intro g' cap w5 hge hst hb5
  have hb35 := ((Below.refl w3.heap.size w3).alloc (Nat.le_refl _) (.cells #[.string name] 9)).trans (hb5.mono (by simp))
  have hr5 := Lib.hid (hr3.out.step hb35)
  have hq5 := Lib.hid (hq3.out.step hb35)
  have hx5 := Lib.hid (hx3.out.step hb35)
  have hst' := Lib.hid hst
  have hge' : w3.heap.size < g' := by first | omega | (simp at hge; omega)
  obtain ⟨k1, k2, k3⟩ := gbox_cells (w := w) (sv := .slice A g.ns c) (fv := .slice FA g.nf fc) (mv := .slice MA g.nm mc) hx5.out
  obtain ⟨⟨u0, z0⟩, ⟨u1, z1⟩, ⟨u2, z2⟩, f0, f1, f2, hz⟩ := hr5.out
  obtain ⟨_, _, _, f3, _, _, hz5⟩ := hq5.out
  clear hb5 hge hst hb35
  go_wp2_with fail
  have hr6 : Free3 (w5.setCell ⟨w.heap.size, 0, none⟩ (.slice (some ⟨g', 0, none⟩) (g.ns + 1) cap)) (w.heap.size + 1) :=
    ⟨⟨u0, (cell_setOther (by simp)).trans z0⟩, ⟨u1, (cell_setOther (by simp)).trans z1⟩, ⟨u2, (cell_setOther (by simp)).trans z2⟩, (World.frozen?_setCell _ _ _ _).trans f0, (World.frozen?_setCell _ _ _ _).trans f1, (World.frozen?_setCell _ _ _ _).trans f2, by simpa using hz⟩
  have hbw : Below w.heap.size w (w5.setCell ⟨w.heap.size, 0, none⟩ (.slice (some ⟨g', 0, none⟩) (g.ns + 1) cap)) := hx5.out.bel.setCell (Nat.le_refl _) _
  have hbf := Free3.bel (b := w.heap.size + 1) hbw (by omega) (.slice (some ⟨g', 0, none⟩) (g.ns + 1) cap) (.slice FA g.nf fc) (.slice MA g.nm mc)
  refine bodyPost_ret (results_sig2 rfl _ _ (w.heap.size + 1) (.slice (some ⟨g', 0, none⟩) (g.ns + 1) cap) (.slice FA g.nf fc) (.slice MA g.nm mc) rfl (hr6.set _ _ _)) rfl ⟨_, rfl, ⟨?_, hG'.out.2.1.below hbf, hG'.out.2.2.below hbf⟩, hbf⟩
  exact (((hst'.out.setOther _ (by show w.heap.size ≠ g'; omega)).setOther _ (by show w.heap.size + 1 ≠ g'; omega)).setOther _ (by show w.heap.size + 1 ≠ g'; omega)).setOther _ (by show w.heap.size + 1 ≠ g'; omega)
end Go.Proofs.Ythkbekfdjfmmbaa
