/- The law TypingTurns. -/
import Derived.Test.YthkbekfdjfmmbaaWakes06
namespace Go.Proofs.Ythkbekfdjfmmbaa
open Go.RowKit
set_option maxRecDepth 100000

/-- The sort of a kind with two Args. -/
def two (op a b : Int) : Int × Int :=
  if tyK op = true ∧ tyN op = 2 then
    if a < 0 ∨ b < 0 then (0, 33) else if b = a then (if tyA op ≠ -1 ∧ a ≠ tyA op then (0, 33) else (tyR op, 0)) else (0, 33)
  else (0, 2)
theorem opT_two (op a b : Int) : opT op 2 (fl [a, b]) = two op a b := by
  unfold two opT
  by_cases hk : tyK op = true
  · by_cases hn : tyN op = 2
    · have h7 : op ≠ 7 := fun h => by subst h; revert hn; decide
      have hr := tyR_free h7
      have e0 : fl [a, b] 0 = a := rfl
      have e1 : fl [a, b] 1 = b := rfl
      have hng : negS 2 (fl [a, b]) = decide (a < 0 ∨ b < 0) := by unfold negS; simp [List.range, List.range.loop, e0, e1]
      have hal : alikeB 2 (fl [a, b]) = decide (b = a) := by unfold alikeB; simp [List.range, List.range.loop, e0, e1]; rfl
      unfold tailT
      rw [hng, hal, e0]
      by_cases hs : a < 0 ∨ b < 0
      · simp [hk, hn, h7, hs]
      · by_cases he : b = a
        · simp [hk, hn, h7, he, hr]
        · simp [hk, hn, h7, hs, he]
    · have hn' : ((2 : Nat) : Int) ≠ tyN op := fun h => hn h.symm
      rw [if_neg (by rw [hk]; simp), if_pos hn', if_neg (fun h => hn h.2)]
  · simp [hk]
theorem two_turn (op a b : Int) : two op b a = two op a b := by
  unfold two
  by_cases hc : tyK op = true ∧ tyN op = 2
  · rw [if_pos hc, if_pos hc]
    by_cases hs : a < 0 ∨ b < 0
    · rw [if_pos hs, if_pos (by omega)]
    · rw [if_neg hs, if_neg (by omega)]
      by_cases he : b = a
      · subst he; rfl
      · rw [if_neg he, if_neg (fun h => he h.symm)]
  · rw [if_neg hc, if_neg hc]
theorem two_once {op a b c : Int} (h1 : (two op a b).2 = 0) (h2 : (two op a c).2 = 0) : two op a c = two op a b ∧ b = c := by
  have hk : ∀ x, (two op a x).2 = 0 → x = a := fun x h => by
    unfold two at h
    split at h
    · split at h
      · cases h
      · split at h
        · assumption
        · cases h
    · cases h
  have hb := hk _ h1
  have hc := hk _ h2
  subst hb
  subst hc
  exact ⟨rfl, rfl⟩
theorem opT_ite (a b : Int) : opT 7 3 (fl [0, a, b]) = if a < 0 ∨ b < 0 then (0, 33) else if b = a then (a, 0) else (0, 33) := by
  rw [opT7, if_neg (by decide), if_neg (by show ¬ ((0 : Int) ≠ 0); decide)]
  have hng : negS 3 (fl [0, a, b]) = decide (a < 0 ∨ b < 0) := by unfold negS; simp [List.range, List.range.loop, show fl [0, a, b] 0 = 0 from rfl, show fl [0, a, b] 1 = a from rfl, show fl [0, a, b] 2 = b from rfl]
  rw [hng, show fl [0, a, b] 1 = a from rfl, show fl [0, a, b] 2 = b from rfl]
  simp
theorem R2 {a b : Int} (ha : R64 a) (hb : R64 b) : ∀ x ∈ [a, b], R64 x := fun x hx => by
  simp at hx
  rcases hx with rfl | rfl
  · exact ha
  · exact hb
theorem R3 {a b : Int} (ha : R64 a) (hb : R64 b) : ∀ x ∈ [0, a, b], R64 x := fun x hx => by
  simp at hx
  rcases hx with rfl | rfl | rfl
  · exact ⟨by decide, by decide⟩
  · exact ha
  · exact hb
set_option maxHeartbeats 4000000 in
theorem TypingTurns_any (op a b c : Int) (w : World) (h8 : R8 op) (ha : R64 a) (hb : R64 b) (hc : R64 c) :
    Calls Try.prog 6 #[.int .i8 op, .int .i64 a, .int .i64 b, .int .i64 c] w fun e w' => e = .returned (.bool true) ∧ Below w.heap.size w w' := by
  have hwk := Lib.hid wakes06_any
  have hOp : Hid (∀ (x y : Int) (W : World), R64 x → R64 y → Calls Try.prog 22 #[.int .i8 op, .slice (some ⟨W.heap.size, 0, none⟩) 2 2] (W.alloc (.cells #[.int .i64 x, .int .i64 y] 3)) fun e w' => e = .returned (.tuple #[.int .i64 (two op x y).1, .int .i64 (two op x y).2]) ∧ Below (W.alloc (.cells #[.int .i64 x, .int .i64 y] 3)).heap.size (W.alloc (.cells #[.int .i64 x, .int .i64 y] 3)) w') := fun x y W hx hy => by
    have h := TOp_any op _ 2 (fl [x, y]) _ h8 (ints_lit W [x, y] #[.int .i64 x, .int .i64 y] 2 3 rfl rfl (R2 hx hy) (by decide)) (lit_cap _ (by decide))
    rw [opT_two] at h
    exact h
  have hIt : Hid (∀ (W : World), Calls Try.prog 22 #[.int .i8 7, .slice (some ⟨W.heap.size, 0, none⟩) 3 3] (W.alloc (.cells #[.int .i64 0, .int .i64 a, .int .i64 b] 3)) fun e w' => e = .returned (.tuple #[.int .i64 (if a < 0 ∨ b < 0 then ((0 : Int), (33 : Int)) else if b = a then (a, 0) else (0, 33)).1, .int .i64 (if a < 0 ∨ b < 0 then ((0 : Int), (33 : Int)) else if b = a then (a, 0) else (0, 33)).2]) ∧ Below (W.alloc (.cells #[.int .i64 0, .int .i64 a, .int .i64 b] 3)).heap.size (W.alloc (.cells #[.int .i64 0, .int .i64 a, .int .i64 b] 3)) w') := fun W => by
    have h := TOp_any 7 _ 3 (fl [0, a, b]) _ ⟨by decide, by decide⟩ (ints_lit W [0, a, b] #[.int .i64 0, .int .i64 a, .int .i64 b] 3 3 rfl rfl (R3 ha hb) (by decide)) (lit_cap _ (by decide))
    rw [opT_ite] at h
    exact h
  have hab := Lib.hid (two_turn op a b)
  have honce := Lib.hid (@two_once op a b c)
  have ha' := Lib.hid ha
  have hb' := Lib.hid hb
  have hc' := Lib.hid hc
  have hx0 := Lib.hid ((Bx.nil w).skip (.cells #[.int .i64 a, .int .i64 b] 3))
  clear ha hb hc h8
  obtain ⟨x, e, hxe⟩ : ∃ x e, two op a b = (x, e) := ⟨_, _, rfl⟩
  have hxe' := Lib.hid hxe
  obtain ⟨z, g, hzg⟩ : ∃ z g, two op a c = (z, g) := ⟨_, _, rfl⟩
  have hzg' := Lib.hid hzg
  clear hxe hzg
  go_enter Try.func6, Try.ntmps6
  go_wp2_with fail
  refine (hOp.out a b w ha'.out hb'.out).mono ?_
  rintro _ w1 ⟨rfl, hb1⟩
  have hx1 := Lib.hid ((hx0.out.step hb1).skip (.cells #[.int .i64 b, .int .i64 a] 3))
  rw [hxe'.out]
  clear hb1
  go_wp2_with fail
  refine (hOp.out b a w1 hb'.out ha'.out).mono ?_
  rintro _ w2 ⟨rfl, hb2⟩
  have hx2 := Lib.hid ((hx1.out.step hb2).skip (.cells #[.int .i64 a, .int .i64 c] 3))
  rw [hab.out, hxe'.out]
  clear hb2
  go_wp2_with fail
  refine (hOp.out a c w2 ha'.out hc'.out).mono ?_
  rintro _ w3 ⟨rfl, hb3⟩
  have hx3 := Lib.hid ((hx2.out.step hb3).skip (.cells #[.int .i64 0, .int .i64 a, .int .i64 b] 3))
  rw [hzg'.out]
  clear hb3
  have hg : (e == 0) = false ∨ ((e == 0) = true ∧ (g == 0) = false) ∨ ((e == 0) = true ∧ (g == 0) = true ∧ x = z ∧ b = c) := by
    by_cases h1 : e = 0
    · by_cases h2 : g = 0
      · have := honce.out (by rw [hxe'.out]; exact h1) (by rw [hzg'.out]; exact h2)
        rw [hxe'.out, hzg'.out] at this
        injection this.1 with h3 h4
        exact .inr (.inr ⟨by simpa using h1, by simpa using h2, h3.symm, this.2⟩)
      · exact .inr (.inl ⟨by simpa using h1, by simpa using h2⟩)
    · exact .inl (by simpa using h1)
  have hab2 : ((a == b) = false ∨ ((a == b) = true ∧ decide (0 ≤ a) = false)) ∧ (if a < 0 ∨ b < 0 then ((0 : Int), (33 : Int)) else if b = a then (a, 0) else (0, 33)) = (0, 33) ∨ ((a == b) = true ∧ decide (0 ≤ a) = true) ∧ (if a < 0 ∨ b < 0 then ((0 : Int), (33 : Int)) else if b = a then (a, 0) else (0, 33)) = (a, 0) := by
    by_cases h1 : a = b
    · by_cases h2 : 0 ≤ a
      · exact .inr ⟨⟨by simpa using h1, decide_eq_true h2⟩, by rw [if_neg (by omega), if_pos h1.symm]⟩
      · exact .inl ⟨.inr ⟨by simpa using h1, decide_eq_false h2⟩, by rw [if_pos (by omega)]⟩
    · refine .inl ⟨.inl (by simpa using h1), ?_⟩
      by_cases h2 : a < 0 ∨ b < 0
      · rw [if_pos h2]
      · rw [if_neg h2, if_neg (fun h => h1 h.symm)]
  have hab3 := Lib.hid hab2
  clear hab2
  rcases hg with b1 | ⟨b1, b2⟩ | ⟨b1, b2, rfl, rfl⟩
  all_goals go_wp2_with fail
  all_goals refine (hIt.out w3).mono ?_
  all_goals rintro _ w4 ⟨rfl, hb4⟩
  all_goals have hx4 := Lib.hid (hx3.out.step hb4)
  all_goals clear hb4
  all_goals rcases hab3.out with ⟨h | ⟨h, h'⟩, h2⟩ | ⟨⟨h, h'⟩, h2⟩
  all_goals rw [h2]
  all_goals clear h2
  all_goals go_wp2_with (go_at_call 21; (with_reducible refine (hwk.out _).mono ?_); rintro _ w5 ⟨rfl, hb5⟩; have hx5 := Lib.hid (hx4.out.step hb5))
  all_goals go_ret
  all_goals exact ⟨rfl, hx5.out.bel⟩
end Go.Proofs.Ythkbekfdjfmmbaa
