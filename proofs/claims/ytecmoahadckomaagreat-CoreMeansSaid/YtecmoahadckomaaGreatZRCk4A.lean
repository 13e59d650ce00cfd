/- gantryref04.Check: the signature so far, in three rows of the call's own. -/
import Derived.Test.YtecmoahadckomaaGreatZRSigBRSigCRSigD
import Derived.Test.YtecmoahadckomaaGreatZRowG
import Derived.Test.YtecmoahadckomaaGreatZAppR
import Derived.Lib.OwnKind
namespace Go.Proofs.YtecmoahadckomaaGreat
open Go.RowKit
set_option maxRecDepth 100000

/-- The first i sorts, j functions, k macros. -/
def Sg.pre (g : Sg) (i j k : Nat) : Sg := ⟨i, g.S, j, g.F, k, g.M⟩
theorem freeR_cases (g : Sg) (s : ByteArray) (b : Bool) : (freeR g s b != 0) = !(useS s && !(if b then sortHas g s else funHas g s || (macHas g s || coreS s))) := by
  unfold freeR
  cases useS s with
  | false => rfl
  | true => cases (if b then sortHas g s else funHas g s || (macHas g s || coreS s)) <;> rfl
theorem okSn_free (g : Sg) (i : Nat) : (freeR (g.pre i 0 0) (g.S i) true != 0) = !okSn g i := by
  rw [freeR_cases]
  congr 1
  rw [Bool.eq_iff_iff, okSn_iff]
  simp only [if_true, Bool.and_eq_true, Bool.not_eq_true', sortHas, Bool.or_eq_false_iff]
  constructor
  · rintro ⟨h1, h2, h3, h4⟩
    refine ⟨h1, fun e => ?_, fun e => ?_, fun k hk e => ?_⟩
    · rw [e, eqS_self] at h2; cases h2
    · rw [e, eqS_self] at h3; cases h3
    · have : amongS i g.S (g.S i) = true := among_iff.2 ⟨k, hk, e⟩
      rw [show (g.pre i 0 0).ns = i from rfl, show (g.pre i 0 0).S = g.S from rfl, this] at h4; cases h4
  · rintro ⟨h1, h2, h3, h4⟩
    exact ⟨h1, eqS_ne fun e => h2 e.symm, eqS_ne fun e => h3 e.symm, among_no h4⟩
theorem okFn_free (g : Sg) (i : Nat) : ((freeR (g.pre g.ns i 0) (g.F i).name false != 0) || !funB g.ns (g.F i)) = !okFn g i := by
  rw [freeR_cases, ← Bool.not_and]
  congr 1
  rw [Bool.eq_iff_iff, okFn_iff]
  simp only [Bool.and_eq_true, Bool.not_eq_true', funHas, macHas, Bool.or_eq_false_iff, Bool.false_eq_true, if_false]
  constructor
  · rintro ⟨⟨h1, h2, h3, h4⟩, h5⟩
    refine ⟨h1, h4, fun k hk e => ?_, h5⟩
    have : amongS i (fun i => (g.F i).name) (g.F i).name = true := among_iff.2 ⟨k, hk, e⟩
    rw [show (g.pre g.ns i 0).nf = i from rfl, show (g.pre g.ns i 0).F = g.F from rfl, this] at h2; cases h2
  · rintro ⟨h1, h2, h3, h4⟩
    exact ⟨⟨h1, among_no h3, among_no (fun k hk => absurd hk (Nat.not_lt_zero _)), h2⟩, h4⟩
theorem okMn_free (g : Sg) (i : Nat) : ((freeR (g.pre g.ns g.nf i) (g.M i).name false != 0) || !macB g.ns (g.M i)) = !okMn g i := by
  rw [freeR_cases, ← Bool.not_and]
  congr 1
  rw [Bool.eq_iff_iff, okMn_iff]
  simp only [Bool.and_eq_true, Bool.not_eq_true', funHas, macHas, Bool.or_eq_false_iff, Bool.false_eq_true, if_false]
  constructor
  · rintro ⟨⟨h1, h2, h3, h4⟩, h5⟩
    refine ⟨h1, h4, fun k hk e => ?_, fun k hk e => ?_, h5⟩
    · have : amongS g.nf (fun i => (g.F i).name) (g.M i).name = true := among_iff.2 ⟨k, hk, e⟩
      rw [show (g.pre g.ns g.nf i).nf = g.nf from rfl, show (g.pre g.ns g.nf i).F = g.F from rfl, this] at h2; cases h2
    · have : amongS i (fun i => (g.M i).name) (g.M i).name = true := among_iff.2 ⟨k, hk, e⟩
      rw [show (g.pre g.ns g.nf i).nm = i from rfl, show (g.pre g.ns g.nf i).M = g.M from rfl, this] at h3; cases h3
  · rintro ⟨h1, h2, h3, h4, h5⟩
    exact ⟨⟨h1, among_no h3, among_no h4, h2⟩, h5⟩

theorem info_fun4 : (Tryz.prog.info? 81).map (fun i => (i.zero, i.size, i.bytes)) = some (some (fnV fn0), 6, 56) := by kernel_rfl
theorem info_mac4 : (Tryz.prog.info? 55).map (fun i => (i.zero, i.size, i.bytes)) = some (some (.agg #[.string ByteArray.empty, .slice none 0 0, .int .i64 0, .int .i8 0, .string ByteArray.empty, .slice none 0 0]), 6, 96) := by kernel_rfl
def fnCs4 (F : Nat → Fn) (i : Nat) : List Value := fnC (F i)
theorem OwnG.fns4 {w : World} {base n : Nat} {v : Value} {F : Nat → Fn} (h : OwnG w base 81 6 v n (fnCs4 F)) (hF : ∀ i, i < n → FnR (F i)) : FnsAt w v n F :=
  OwnG.row h (fun _ => rfl) fun _ _ i hi hc => ⟨⟨hc 0 _ rfl, hc 1 _ rfl, hc 2 _ rfl, hc 3 _ rfl, hc 4 _ rfl, hc 5 _ rfl⟩, hF i hi⟩
/-- The six values of each macro. -/
def MacV (w : World) (n : Nat) (M : Nat → Mc) (V : Nat → List Value) : Prop := (∀ i, (V i).length = 6) ∧ ∀ i, i < n → ∃ v0 v1 v2 v3 v4 v5, V i = [v0, v1, v2, v3, v4, v5] ∧ McIs w (M i) v0 v1 v2 v3 v4 v5
theorem MacV.below {w w' : World} {n : Nat} {M : Nat → Mc} {V : Nat → List Value} (h : MacV w n M V) (hb : Below w.heap.size w w') : MacV w' n M V := ⟨h.1, fun i hi => by
  obtain ⟨v0, v1, v2, v3, v4, v5, e, hm⟩ := h.2 i hi
  exact ⟨v0, v1, v2, v3, v4, v5, e, hm.below hb⟩⟩
theorem McsAt.vals {w : World} {v : Value} {n : Nat} {M : Nat → Mc} (h : McsAt w v n M) : ∃ V, MacV w n M V ∧ (∀ i, i < n → ∃ b o c, v = .slice (some ⟨b, o, none⟩) n c ∧ b < w.heap.size ∧ ∀ r u, (V i)[r]? = some u → w.cell? ⟨b, o + i * 6 + r, none⟩ = some u) := by
  have hex : ∀ i : Nat, ∃ l : List Value, l.length = 6 ∧ (i < n → (∃ v0 v1 v2 v3 v4 v5, l = [v0, v1, v2, v3, v4, v5] ∧ McIs w (M i) v0 v1 v2 v3 v4 v5) ∧ ∃ b o c, v = .slice (some ⟨b, o, none⟩) n c ∧ b < w.heap.size ∧ ∀ r u, l[r]? = some u → w.cell? ⟨b, o + i * 6 + r, none⟩ = some u) := by
    intro i
    by_cases hi : i < n
    · obtain ⟨b, o, c, e, hb, v0, v1, v2, v3, v4, v5, ⟨c0, c1, c2, c3, c4, c5⟩, hm⟩ := RowAt.at_ h hi
      refine ⟨[v0, v1, v2, v3, v4, v5], rfl, fun _ => ⟨⟨v0, v1, v2, v3, v4, v5, rfl, hm⟩, b, o, c, e, hb, fun r u hu => ?_⟩⟩
      have hr : r < 6 := (List.getElem?_eq_some_iff.1 hu).1
      have : r = 0 ∨ r = 1 ∨ r = 2 ∨ r = 3 ∨ r = 4 ∨ r = 5 := by omega
      rcases this with rfl | rfl | rfl | rfl | rfl | rfl <;> (simp at hu; subst hu) <;> assumption
    · exact ⟨[undef, undef, undef, undef, undef, undef], rfl, fun h => absurd h hi⟩
  obtain ⟨V, hV⟩ := Classical.axiomOfChoice hex
  exact ⟨V, ⟨fun i => (hV i).1, fun i hi => ((hV i).2 hi).1⟩, fun i hi => ((hV i).2 hi).2⟩
theorem OwnG.mcs4 {w : World} {base n m : Nat} {v : Value} {M : Nat → Mc} {V : Nat → List Value} (h : OwnG w base 55 6 v n V) (hV : MacV w m M V) (hn : n ≤ m) : McsAt w v n M :=
  OwnG.row h hV.1 fun _ _ i hi hc => by
    obtain ⟨v0, v1, v2, v3, v4, v5, e, hm⟩ := hV.2 i (by omega)
    rw [e] at hc
    exact ⟨v0, v1, v2, v3, v4, v5, ⟨hc 0 _ rfl, hc 1 _ rfl, hc 2 _ rfl, hc 3 _ rfl, hc 4 _ rfl, hc 5 _ rfl⟩, hm⟩

theorem OwnG.apart {w : World} {base s s' n n' : Nat} {e e' : TypeId} {v v' : Value} {g g' : Nat → List Value} (h : OwnG w base e s v n g) (h' : OwnG w base e' s' v' n' g') (he : e ≠ e') : v.ownBlock = none ∨ v.ownBlock ≠ v'.ownBlock := by
  cases hv : v.ownBlock with
  | none => exact .inl rfl
  | some k =>
    refine .inr fun e1 => ?_
    obtain ⟨c, fz, h1⟩ := Lib.ownsRow_kind h k hv
    obtain ⟨c', fz', h2⟩ := Lib.ownsRow_kind h' k e1.symm
    rw [h1] at h2
    injection h2 with h2
    injection h2 with _ h2 _
    exact he h2
def chK (w : World) (sv fv mv a b c : Value) : List (Nat × Nat × Value) := [(w.heap.size + 1, 0, a), (w.heap.size + 1, 1, b), (w.heap.size + 1, 2, c), (w.heap.size, 0, sv), (w.heap.size, 1, fv), (w.heap.size, 2, mv)]
def Fz4 (b : Nat) (x : World) : Prop := x.frozen? ⟨b, 0, none⟩ = false ∧ x.frozen? ⟨b, 1, none⟩ = false ∧ x.frozen? ⟨b, 2, none⟩ = false
/-- The signature so far lies in the box behind the one that came in. -/
structure Sofar (w : World) (sv fv mv : Value) (g : Sg) (V : Nat → List Value) (a b c : Value) (i j k : Nat) (x : World) : Prop where
  bx : Bx w (chK w sv fv mv a b c) x
  s : OwnG x (w.heap.size + 2) 9 1 a i (strC g.S)
  f : OwnG x (w.heap.size + 2) 81 6 b j (fnCs4 g.F)
  m : OwnG x (w.heap.size + 2) 55 6 c k V
  fz : Fz4 (w.heap.size + 1) x
section
variable {w x y : World} {sv fv mv a b c : Value} {g : Sg} {V : Nat → List Value} {i j k : Nat}
theorem Fz4.step {n B : Nat} (h : Fz4 n x) (hb : Below B x y) (hn : n < B) : Fz4 n y :=
  ⟨(hb.frozen (p := ⟨n, 0, none⟩) hn).trans h.1, (hb.frozen (p := ⟨n, 1, none⟩) hn).trans h.2.1, (hb.frozen (p := ⟨n, 2, none⟩) hn).trans h.2.2⟩
theorem Sofar.big (h : Sofar w sv fv mv g V a b c i j k x) : w.heap.size + 1 < x.heap.size := h.bx.cells.1.2
theorem Sofar.step (h : Sofar w sv fv mv g V a b c i j k x) (hb : Below x.heap.size x y) : Sofar w sv fv mv g V a b c i j k y :=
  ⟨h.bx.step hb, h.s.below hb (Nat.le_refl _), h.f.below hb (Nat.le_refl _), h.m.below hb (Nat.le_refl _), h.fz.step hb h.big⟩
theorem Sofar.start (w : World) (sv fv mv : Value) (g : Sg) (V : Nat → List Value) : Sofar w sv fv mv g V (.slice none 0 0) (.slice none 0 0) (.slice none 0 0) 0 0 0 ((w.alloc (.cells #[sv, fv, mv] 26)).alloc (.cells #[.slice none 0 0, .slice none 0 0, .slice none 0 0] 26)) := by
  have h := ((Bx.nil w).row #[sv, fv, mv] 26).row #[.slice none 0 0, .slice none 0 0, .slice none 0 0] 26
  simp only [rowK, World.size_alloc, List.append_nil, List.cons_append, List.nil_append] at h
  exact ⟨h, OwnG.nil _ _ _ _ _, OwnG.nil _ _ _ _ _, OwnG.nil _ _ _ _ _, ⟨by simp, by simp, by simp⟩⟩
theorem Sofar.cells (h : Sofar w sv fv mv g V a b c i j k x) : x.cell? ⟨w.heap.size + 1, 0, none⟩ = some a ∧ x.cell? ⟨w.heap.size + 1, 1, none⟩ = some b ∧ x.cell? ⟨w.heap.size + 1, 2, none⟩ = some c ∧ x.cell? ⟨w.heap.size, 0, none⟩ = some sv ∧ x.cell? ⟨w.heap.size, 1, none⟩ = some fv ∧ x.cell? ⟨w.heap.size, 2, none⟩ = some mv :=
  ⟨h.bx.cells.1.1, h.bx.cells.2.1.1, h.bx.cells.2.2.1.1, h.bx.cells.2.2.2.1.1, h.bx.cells.2.2.2.2.1.1, h.bx.cells.2.2.2.2.2.1.1⟩
theorem Sofar.sg (h : Sofar w sv fv mv g V a b c i j k x) (hG : SgAt w sv fv mv g) (hV : MacV w g.nm g.M V) (hi : i ≤ g.ns) (hj : j ≤ g.nf) (hk : k ≤ g.nm) : SgAt x a b c (g.pre i j k) := by
  refine ⟨h.s.strs fun r hr => ?_, h.f.fns4 fun r hr => ?_, h.m.mcs4 (hV.below h.bx.bel) hk⟩
  · obtain ⟨_, _, _, _, _, hst⟩ := RowAt.at_ hG.1 (i := r) (by omega); exact hst.2
  · obtain ⟨_, _, _, _, _, hst⟩ := RowAt.at_ hG.2.1 (i := r) (by omega); exact hst.2
theorem chK_lt {w : World} {sv fv mv a b c : Value} : ∀ q ∈ chK w sv fv mv a b c, q.1 < w.heap.size + 2 := by
  intro q hq
  simp only [chK, List.mem_cons, List.not_mem_nil, or_false] at hq
  rcases hq with rfl | rfl | rfl | rfl | rfl | rfl <;> simp
theorem cellsK.under4 {K : List (Nat × Nat × Value)} {B : Nat} (h : cellsK K x) (hb : Below B x y) (hK : ∀ a ∈ K, a.1 < B) : cellsK K y := by
  induction K with
  | nil => trivial
  | cons a K ih =>
    obtain ⟨b, o, v⟩ := a
    obtain ⟨⟨h0, h1⟩, h2⟩ := h
    exact ⟨⟨(hb.cell (p := ⟨b, o, none⟩) (hK (b, o, v) (by simp))).trans h0, Nat.lt_of_lt_of_le h1 hb.size⟩, ih h2 fun a ha => hK a (by simp [ha])⟩
theorem cellsK.put4 {K : List (Nat × Nat × Value)} {b o : Nat} {u : Value} (h : cellsK K x) (hne : ∀ q ∈ K, ¬ (q.1 = b ∧ q.2.1 = o)) : cellsK K (x.setCell ⟨b, o, none⟩ u) := by
  induction K with
  | nil => trivial
  | cons a K ih =>
    obtain ⟨b', o', v'⟩ := a
    obtain ⟨⟨h0, h1⟩, h2⟩ := h
    refine ⟨⟨?_, by simpa using h1⟩, ih h2 fun a ha => hne a (by simp [ha])⟩
    exact (World.cell?_setCell_other _ _ _ _ (fun e => hne (b', o', v') (by simp) (by injection e with e1 e2; exact ⟨e1.symm, e2.symm⟩))).trans h0
theorem Fz4.set {n : Nat} (h : Fz4 n x) (p : Addr) (u : Value) : Fz4 n (x.setCell p u) := ⟨(World.frozen?_setCell _ _ _ _).trans h.1, (World.frozen?_setCell _ _ _ _).trans h.2.1, (World.frozen?_setCell _ _ _ _).trans h.2.2⟩
theorem Sofar.moreS {a' : Value} {i' : Nat} (h : Sofar w sv fv mv g V a b c i j k x) (ho : OwnG y (w.heap.size + 2) 9 1 a' i' (strC g.S)) (hb : Below (w.heap.size + 2) x y) (hg : x.grownBy y a.ownBlock) :
    Sofar w sv fv mv g V a' b c i' j k (y.setCell ⟨w.heap.size + 1, 0, none⟩ a') := by
  have hc := h.bx.cells.under4 hb chK_lt
  have hbel := h.bx.bel.trans (hb.mono (by omega))
  refine ⟨⟨⟨⟨World.cell?_setCell_same' _ _ _ (by rw [hc.1.1]; rfl), by have := hc.1.2; simpa using this⟩, hc.2.put4 ?_⟩, hbel.setCell (by show w.heap.size ≤ w.heap.size + 1; omega) _⟩, ho.setLow (by omega) _, OwnG.setLow (World.ownsRow.kept h.f hg (h.f.apart h.s (by decide))) (by omega) _, OwnG.setLow (World.ownsRow.kept h.m hg (h.m.apart h.s (by decide))) (by omega) _, (h.fz.step hb (by omega)).set _ _⟩
  intro q hq
  simp only [List.mem_cons, List.not_mem_nil, or_false] at hq
  rcases hq with rfl | rfl | rfl | rfl | rfl <;> simp
theorem Sofar.moreF {b' : Value} {j' : Nat} (h : Sofar w sv fv mv g V a b c i j k x) (ho : OwnG y (w.heap.size + 2) 81 6 b' j' (fnCs4 g.F)) (hb : Below (w.heap.size + 2) x y) (hg : x.grownBy y b.ownBlock) :
    Sofar w sv fv mv g V a b' c i j' k (y.setCell ⟨w.heap.size + 1, 1, none⟩ b') := by
  have hc := h.bx.cells.under4 hb chK_lt
  have hbel := h.bx.bel.trans (hb.mono (by omega))
  obtain ⟨c0, c1, c2⟩ := hc
  refine ⟨⟨⟨⟨(World.cell?_setCell_other _ _ _ _ (by simp)).trans c0.1, by have := c0.2; simpa using this⟩, ⟨World.cell?_setCell_same' _ _ _ (by rw [c1.1]; rfl), by have := c1.2; simpa using this⟩, c2.put4 ?_⟩, hbel.setCell (by show w.heap.size ≤ w.heap.size + 1; omega) _⟩, OwnG.setLow (World.ownsRow.kept h.s hg (h.s.apart h.f (by decide))) (by omega) _, ho.setLow (by omega) _, OwnG.setLow (World.ownsRow.kept h.m hg (h.m.apart h.f (by decide))) (by omega) _, (h.fz.step hb (by omega)).set _ _⟩
  intro q hq
  simp only [List.mem_cons, List.not_mem_nil, or_false] at hq
  rcases hq with rfl | rfl | rfl | rfl <;> simp
theorem Sofar.moreM {c' : Value} {k' : Nat} (h : Sofar w sv fv mv g V a b c i j k x) (ho : OwnG y (w.heap.size + 2) 55 6 c' k' V) (hb : Below (w.heap.size + 2) x y) (hg : x.grownBy y c.ownBlock) :
    Sofar w sv fv mv g V a b c' i j k' (y.setCell ⟨w.heap.size + 1, 2, none⟩ c') := by
  have hc := h.bx.cells.under4 hb chK_lt
  have hbel := h.bx.bel.trans (hb.mono (by omega))
  obtain ⟨c0, c1, c2, c3⟩ := hc
  refine ⟨⟨⟨⟨(World.cell?_setCell_other _ _ _ _ (by simp)).trans c0.1, by have := c0.2; simpa using this⟩, ⟨(World.cell?_setCell_other _ _ _ _ (by simp)).trans c1.1, by have := c1.2; simpa using this⟩, ⟨World.cell?_setCell_same' _ _ _ (by rw [c2.1]; rfl), by have := c2.2; simpa using this⟩, c3.put4 ?_⟩, hbel.setCell (by show w.heap.size ≤ w.heap.size + 1; omega) _⟩, OwnG.setLow (World.ownsRow.kept h.s hg (h.s.apart h.m (by decide))) (by omega) _, OwnG.setLow (World.ownsRow.kept h.f hg (h.f.apart h.m (by decide))) (by omega) _, ho.setLow (by omega) _, (h.fz.step hb (by omega)).set _ _⟩
  intro q hq
  simp only [List.mem_cons, List.not_mem_nil, or_false] at hq
  rcases hq with rfl | rfl | rfl <;> simp
end
end Go.Proofs.YtecmoahadckomaaGreat
