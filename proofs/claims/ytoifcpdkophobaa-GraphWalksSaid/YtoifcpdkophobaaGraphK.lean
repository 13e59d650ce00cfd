/- Plain laws on Check and Pots' answers: order, more edges. Rows of edges of the call's own. -/
import Derived.Test.YtoifcpdkophobaaGraphNumbers
import Derived.Test.YtoifcpdkophobaaOwn
namespace Go.Proofs.Ytoifcpdkophobaa
open Go.RowKit

theorem sumTo_iff {f : Nat → Int} {M : Int} (hM : 0 ≤ M) (n : Nat) : sumTo f M n ≠ none ↔ (∀ i, i < n → -4611686018427387904 ≤ f i ∧ f i ≤ 4611686018427387904) ∧ sumN (fun i => absI (f i) + 1) n ≤ M := by
  constructor
  · intro h
    refine ⟨sumTo_some h, ?_⟩
    cases hs : sumTo f M n with
    | none => exact absurd hs h
    | some s => rw [← sumTo_eq n hs]; exact (sumTo_bd hM hs).2
  · induction n with
    | zero => intro _ h; cases h
    | succ n ih =>
      rintro ⟨h1, h2⟩
      have h2' : sumN (fun i => absI (f i) + 1) n + (absI (f n) + 1) ≤ M := h2
      have ha : 0 ≤ absI (f n) ∧ f n ≤ absI (f n) ∧ - f n ≤ absI (f n) := by unfold absI; split <;> omega
      have h3 := ih ⟨fun i hi => h1 i (by omega), by omega⟩
      cases hs : sumTo f M n with
      | none => exact absurd hs h3
      | some s =>
        have h4 := sumTo_eq n hs
        have h5 := h1 n (by omega)
        rw [sumTo_succ hs, if_pos (by omega)]
        simp
theorem checkR_congr {n : Int} {m m' : Nat} {E E' : Nat → Ed} (h1 : edsB n E m = true ↔ edsB n E' m' = true) (h2 : sumTo (fun i => (E i).wt) 4611686018427387904 m ≠ none ↔ sumTo (fun i => (E' i).wt) 4611686018427387904 m' ≠ none) : checkR n m E = checkR n m' E' := by
  unfold checkR
  have h1' : (edsB n E m = false) ↔ (edsB n E' m' = false) := by
    clear h2; revert h1; cases edsB n E m <;> cases edsB n E' m' <;> simp
  have h2' : (sumTo (fun i => (E i).wt) 4611686018427387904 m = none) ↔ (sumTo (fun i => (E' i).wt) 4611686018427387904 m' = none) := Decidable.not_iff_not.1 h2
  by_cases a : n < 0 ∨ 4096 < n
  · rw [if_pos a, if_pos a]
  · rw [if_neg a, if_neg a]
    by_cases b : edsB n E m = false
    · rw [if_pos b, if_pos (h1'.1 b)]
    · rw [if_neg b, if_neg (fun h => b (h1'.2 h))]
      by_cases c : sumTo (fun i => (E i).wt) 4611686018427387904 m = none
      · rw [if_pos c, if_pos (h2'.1 c)]
      · rw [if_neg c, if_neg (fun h => c (h2'.2 h))]
theorem check_mk {n : Int} {m : Nat} {E : Nat → Ed} (h0 : 0 ≤ n) (h1 : n ≤ 4096) (h2 : edsB n E m = true) (h3 : sumTo (fun i => (E i).wt) 4611686018427387904 m ≠ none) : checkR n m E = 0 := by
  unfold checkR
  rw [if_neg (by omega), if_neg (by simp [h2]), if_neg h3]
theorem check_un {n : Int} {m : Nat} {E : Nat → Ed} (h : checkR n m E = 0) : 0 ≤ n ∧ n ≤ 4096 ∧ edsB n E m = true ∧ sumTo (fun i => (E i).wt) 4611686018427387904 m ≠ none := by
  obtain ⟨h0, h1, _, h3⟩ := check_ok h
  refine ⟨h0, h1, ?_, h3⟩
  unfold checkR at h
  rw [if_neg (by omega)] at h
  cases he : edsB n E m with
  | true => rfl
  | false => rw [if_pos he] at h; omega

/-- One row of edges behind another. -/
def cat (m : Nat) (E F : Nat → Ed) : Nat → Ed := fun i => if i < m then E i else F (i - m)
theorem cat_all {m k : Nat} {E F : Nat → Ed} (p : Ed → Prop) : (∀ i, i < m + k → p (cat m E F i)) ↔ (∀ i, i < m → p (E i)) ∧ (∀ i, i < k → p (F i)) := by
  unfold cat
  constructor
  · intro h
    refine ⟨fun i hi => ?_, fun i hi => ?_⟩
    · have := h i (by omega); rwa [if_pos hi] at this
    · have := h (m + i) (by omega); rwa [if_neg (by omega), Nat.add_sub_cancel_left] at this
  · rintro ⟨h1, h2⟩ i hi
    split
    · exact h1 i (by assumption)
    · exact h2 _ (by omega)
theorem sumN_cat (m : Nat) (f g : Nat → Int) : ∀ k, sumN (fun i => if i < m then f i else g (i - m)) (m + k) = sumN f m + sumN g k := by
  intro k
  induction k with
  | zero => show sumN _ m = sumN f m + 0; rw [Int.add_zero]; exact sumN_congr fun i hi => by rw [if_pos hi]
  | succ k ih =>
    show sumN _ (m + k) + (if m + k < m then f (m + k) else g (m + k - m)) = sumN f m + (sumN g k + g k)
    rw [ih, if_neg (by omega), Nat.add_sub_cancel_left]; omega
theorem cat_sum {m k : Nat} {E F : Nat → Ed} : sumTo (fun i => (cat m E F i).wt) 4611686018427387904 (m + k) ≠ none ↔
    (∀ i, i < m → -4611686018427387904 ≤ (E i).wt ∧ (E i).wt ≤ 4611686018427387904) ∧ (∀ i, i < k → -4611686018427387904 ≤ (F i).wt ∧ (F i).wt ≤ 4611686018427387904) ∧
      sumN (fun i => absI (E i).wt + 1) m + sumN (fun i => absI (F i).wt + 1) k ≤ 4611686018427387904 := by
  rw [sumTo_iff (by omega), cat_all (fun e => -4611686018427387904 ≤ e.wt ∧ e.wt ≤ 4611686018427387904)]
  have : sumN (fun i => absI (cat m E F i).wt + 1) (m + k) = sumN (fun i => absI (E i).wt + 1) m + sumN (fun i => absI (F i).wt + 1) k := by
    rw [← sumN_cat]
    exact sumN_congr fun i _ => by unfold cat; split <;> rfl
  rw [this, and_assoc]
theorem cat_eds {n : Int} {m k : Nat} {E F : Nat → Ed} : edsB n (cat m E F) (m + k) = true ↔ edsB n E m = true ∧ edsB n F k = true := by
  rw [edsB_iff, edsB_iff, edsB_iff, cat_all (fun e => 0 ≤ e.src ∧ e.src < n ∧ 0 ≤ e.dst ∧ e.dst < n)]
theorem cat_turn {n : Int} {m k : Nat} {E F : Nat → Ed} : checkR n (m + k) (cat m E F) = checkR n (k + m) (cat k F E) := by
  refine checkR_congr ?_ ?_
  · rw [cat_eds, cat_eds, and_comm]
  · rw [cat_sum, cat_sum]
    constructor
    · rintro ⟨a, b, c⟩; exact ⟨b, a, by omega⟩
    · rintro ⟨a, b, c⟩; exact ⟨b, a, by omega⟩
theorem cat_left {n : Int} {m k : Nat} {E F : Nat → Ed} (h : checkR n (m + k) (cat m E F) = 0) : checkR n m E = 0 := by
  obtain ⟨h0, h1, h2, h3⟩ := check_un h
  obtain ⟨a, _, c⟩ := cat_sum.1 h3
  refine check_mk h0 h1 (cat_eds.1 h2).1 ((sumTo_iff (by omega) m).2 ⟨a, ?_⟩)
  have := sumN_nonneg (f := fun i => absI (F i).wt + 1) (fun i => by unfold absI; split <;> omega) k
  omega
theorem cat_feas {m k : Nat} {E F : Nat → Ed} {x : Nat → Int} : Feas (cat m E F) (m + k) x ↔ Feas E m x ∧ Feas F k x := by
  unfold Feas
  exact cat_all (fun e => x e.dst.toNat ≤ x e.src.toNat + e.wt)

theorem bad_iff {n : Int} {m : Nat} {E : Nat → Ed} (h : checkR n m E = 0) : badR n m E = true ↔ ¬ ∃ x, Feas E m x := by
  obtain ⟨h0, h1, hE, _⟩ := check_ok h
  have hS := check_sumN h
  unfold badR
  rw [decide_eq_true_eq]
  constructor
  · rintro ⟨_, hf⟩ ⟨x, hx⟩
    have := relax_conv hE hS hx
    omega
  · intro hno
    refine ⟨h, ?_⟩
    by_cases hf : 0 ≤ (relaxR n.toNat E m).fell
    · exact hf
    · exact absurd ⟨_, relax_feas (n := n.toNat) (fun i hi => (hE i hi).2.2.1) (by omega)⟩ hno
theorem good_facts {n : Int} {m : Nat} {E : Nat → Ed} (h : checkR n m E = 0) (hb : badR n m E = false) : lenR n m E = n.toNat ∧ Feas E m (potR n m E) := by
  obtain ⟨h0, h1, hE, _⟩ := check_ok h
  have hf : (relaxR n.toNat E m).fell < 0 := by
    unfold badR at hb
    simp [h] at hb
    exact hb
  refine ⟨?_, relax_feas (fun i hi => (hE i hi).2.2.1) hf⟩
  unfold lenR; rw [if_pos ⟨h, hf⟩]
theorem bad_len {n : Int} {m : Nat} {E : Nat → Ed} (hb : badR n m E = true) : lenR n m E = 0 := by
  unfold badR at hb
  simp at hb
  unfold lenR
  rw [if_neg (by omega)]
theorem pot_le (n : Int) (m : Nat) (E : Nat → Ed) (i : Nat) : potR n m E i ≤ 0 := relax_le _ _ _ _
theorem pot_ge {n : Int} {m : Nat} {E : Nat → Ed} {x : Nat → Int} (hx : Feas E m x) (h0 : ∀ v, x v ≤ 0) (i : Nat) : x i ≤ potR n m E i := relax_ge hx h0 i

/-- What the law GraphMore asks, as plain law. -/
theorem more_law {n : Int} {m k : Nat} {E F : Nat → Ed} (h : checkR n (m + k) (cat m E F) = 0) :
    checkR n m E = 0 ∧ (badR n m E = true → badR n (m + k) (cat m E F) = true) ∧ badR n (k + m) (cat k F E) = badR n (m + k) (cat m E F) ∧
    lenR n (k + m) (cat k F E) = lenR n (m + k) (cat m E F) ∧ lenR n (m + k) (cat m E F) ≤ lenR n m E ∧
    (∀ i, i < lenR n (m + k) (cat m E F) → potR n (k + m) (cat k F E) i = potR n (m + k) (cat m E F) i) ∧
    (∀ i, i < lenR n (m + k) (cat m E F) → potR n (m + k) (cat m E F) i ≤ potR n m E i) := by
  have hE := cat_left h
  have hT : checkR n (k + m) (cat k F E) = 0 := by rw [← cat_turn]; exact h
  have hfe : (∃ x, Feas (cat k F E) (k + m) x) ↔ (∃ x, Feas (cat m E F) (m + k) x) := by
    constructor <;> rintro ⟨x, hx⟩ <;> exact ⟨x, cat_feas.2 ⟨(cat_feas.1 hx).2, (cat_feas.1 hx).1⟩⟩
  have hbT : badR n (k + m) (cat k F E) = badR n (m + k) (cat m E F) := by
    rw [Bool.eq_iff_iff, bad_iff hT, bad_iff h, hfe]
  have hb1 : badR n m E = true → badR n (m + k) (cat m E F) = true := by
    rw [bad_iff hE, bad_iff h]
    rintro hno ⟨x, hx⟩
    exact hno ⟨x, (cat_feas.1 hx).1⟩
  refine ⟨hE, hb1, hbT, ?_, ?_, ?_, ?_⟩
  · cases hb : badR n (m + k) (cat m E F) with
    | true => rw [bad_len hb, bad_len (hbT.trans hb)]
    | false => rw [(good_facts h hb).1, (good_facts hT (hbT.trans hb)).1]
  · cases hb : badR n (m + k) (cat m E F) with
    | true => rw [bad_len hb]; omega
    | false =>
      have : badR n m E = false := by
        cases hbe : badR n m E with
        | false => rfl
        | true => rw [hb1 hbe] at hb; cases hb
      rw [(good_facts h hb).1, (good_facts hE this).1]; exact Nat.le_refl _
  · intro i hi
    cases hb : badR n (m + k) (cat m E F) with
    | true => rw [bad_len hb] at hi; omega
    | false =>
      obtain ⟨_, f1⟩ := good_facts h hb
      obtain ⟨_, f2⟩ := good_facts hT (hbT.trans hb)
      have a1 := pot_ge (n := n) (m := k + m) (E := cat k F E) (cat_feas.2 ⟨(cat_feas.1 f1).2, (cat_feas.1 f1).1⟩) (pot_le n (m + k) (cat m E F)) i
      have a2 := pot_ge (n := n) (m := m + k) (E := cat m E F) (cat_feas.2 ⟨(cat_feas.1 f2).2, (cat_feas.1 f2).1⟩) (pot_le n (k + m) (cat k F E)) i
      omega
  · intro i hi
    cases hb : badR n (m + k) (cat m E F) with
    | true => rw [bad_len hb] at hi; omega
    | false =>
      obtain ⟨_, f1⟩ := good_facts h hb
      exact pot_ge (n := n) (m := m) (E := E) (cat_feas.1 f1).1 (pot_le n (m + k) (cat m E F)) i

/-! Rows of edges. -/
def edC (e : Ed) : List Value := [.int .i64 e.src, .int .i64 e.dst, .int .i64 e.wt]
theorem info_edge : (Try.prog.info? 34).map (fun i => (i.zero, i.size, i.bytes)) = some (some (.agg #[.int .i64 0, .int .i64 0, .int .i64 0]), 3, 24) := by kernel_rfl
theorem EdsAt.sl {w : World} {v : Value} {n : Nat} {E : Nat → Ed} (h : EdsAt w v n E) : SlAt w 3 v n (fun i => edC (E i)) := by
  obtain ⟨A, c, rfl, hn, hr, hc⟩ := h
  refine ⟨A, c, rfl, fun _ => rfl, fun h0 => ?_⟩
  obtain ⟨b, o, rfl, hb, hc⟩ := hc h0
  refine ⟨b, o, rfl, hb, fun i hi r u hu => ?_⟩
  obtain ⟨c0, c1, c2⟩ := hc i hi
  match r, hu with
  | 0, hu => injection hu with hu; rw [← hu]; exact c0
  | 1, hu => injection hu with hu; rw [← hu, ← Nat.add_assoc]; exact c1
  | 2, hu => injection hu with hu; rw [← hu, ← Nat.add_assoc]; exact c2
theorem SlAt.eds {w : World} {v : Value} {n : Nat} {E : Nat → Ed} (h : SlAt w 3 v n (fun i => edC (E i))) (hn : n ≤ 9223372036854775807) (hr : ∀ i, i < n → R64 (E i).src ∧ R64 (E i).dst ∧ R64 (E i).wt) : EdsAt w v n E := by
  obtain ⟨A, c, rfl, _, hc⟩ := h
  refine ⟨A, c, rfl, hn, hr, fun h0 => ?_⟩
  obtain ⟨b, o, rfl, hb, hc⟩ := hc h0
  refine ⟨b, o, rfl, hb, fun i hi => ⟨hc i hi 0 _ rfl, ?_, ?_⟩⟩
  · have := hc i hi 1 _ rfl; rwa [← Nat.add_assoc] at this
  · have := hc i hi 2 _ rfl; rwa [← Nat.add_assoc] at this
theorem EdsAt.ranges {w : World} {v : Value} {n : Nat} {E : Nat → Ed} (h : EdsAt w v n E) : ∀ i, i < n → R64 (E i).src ∧ R64 (E i).dst ∧ R64 (E i).wt := by
  obtain ⟨A, c, rfl, hn, hr, hc⟩ := h; exact hr
def OwnE (w : World) (base : Nat) (v : Value) (n : Nat) (E : Nat → Ed) : Prop := OwnG w base 34 3 v n (fun i => edC (E i))
theorem OwnE.at_ {w : World} {base n : Nat} {v : Value} {E : Nat → Ed} (h : OwnE w base v n E) (hn : n ≤ 9223372036854775807) (hr : ∀ i, i < n → R64 (E i).src ∧ R64 (E i).dst ∧ R64 (E i).wt) : EdsAt w v n E :=
  SlAt.eds (OwnG.at_ h fun _ => rfl) hn hr
theorem OwnE.below {w w' : World} {base n B : Nat} {v : Value} {E : Nat → Ed} (h : OwnE w base v n E) (hb : Below B w w') (hB : w.heap.size ≤ B) : OwnE w' base v n E := OwnG.below h hb hB
theorem wpList_appE {w : World} {ops : Array Oper} {rest : List Oper} {o : Oper} {a : Act} {Q : Exit → Act → World → Prop} (hw : Region.wanted o (yielded ops a.tmps) = true) (p q : Operand)
    (ho : o.op = .call { callee := .builtin .append, args := #[p, q], argTypes := #[22, 22] }) (base : Nat) (v : Value) (n : Nat) (E : Nat → Ed) (hp : a.eval p = v) (hown : OwnE w base v n E)
    (x : Value) (m : Nat) (F : Nat → Ed) (hq : a.eval q = x) (hx : EdsAt w x m F) (hn : n + m ≤ 1000000) (hb : base ≤ w.heap.size)
    (h : ∀ v' w', OwnE w' base v' (n + m) (cat n E F) → Below base w w' → wpList Try.prog ops Q rest (a.put o.dst v') w') : wpList Try.prog ops Q (o :: rest) a w := by
  obtain ⟨i0, hi, hz0, hz1, hz2⟩ := info_parts info_edge
  refine wpList_append_src hw p q 22 ho i0 _ 24 Try.underlying22 hi hz0 hz1 hz2 rfl (by decide) hp hown x hq hx.sl ?_ (by unfold maxLen; omega) (by omega) hb ?_
  · intro i _ u hu
    unfold edC at hu
    simp at hu
    rcases hu with rfl | rfl | rfl <;> rfl
  · intro v' w' h1 h2 _
    refine h v' w' ?_ h2
    exact OwnG.congr h1 fun i _ => by unfold cat; split <;> rfl
end Go.Proofs.Ytoifcpdkophobaa
