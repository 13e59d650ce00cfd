/- gantrylaw13.wakes. -/
import Derived.Test.YtoppfcfalciibaaSome
import Derived.Test.YtoppfcfalciibaaTermW
namespace Go.Proofs.Ytoppfcfalciibaa
open Go.RowKit Go.Maps
set_option maxRecDepth 100000

theorem LitP.ok {n i j : Nat} {N : Nat → Nd} {a e : Int} {r : Bool} (h : LitP n N i a e) (hc : CheckP n N) (hi : i < n) (hb : BareR N i false j r) (h1 : (N i).sort = 0) (h2 : (N j).sort = 0) : a = litI j r ∧ e = 0 := by
  rcases h with ⟨h, _⟩ | ⟨_, i', j', r', e1, _, hb', h⟩
  · rcases h with h | h | h
    · exact absurd hc h
    · omega
    · omega
  · have : i' = i := by omega
    subst this
    obtain ⟨rfl, rfl⟩ := bare_det hb hb'
    rcases h with ⟨h | h, _⟩ | ⟨_, _, h3, h4⟩
    · exact absurd h1 h
    · exact absurd h2 h
    · exact ⟨h3, h4⟩
theorem LitP.no {n i : Nat} {N : Nat → Nd} {a e : Int} (h : LitP n N i a e) (hc : CheckP n N) (hi : i < n) (h1 : (N i).sort ≠ 0) : a = 0 ∧ e = 33 := by
  rcases h with ⟨h, _⟩ | ⟨_, i', j', r', e1, _, hb', h⟩
  · rcases h with h | h | h
    · exact absurd hc h
    · omega
    · omega
  · have : i' = i := by omega
    subst this
    rcases h with ⟨_, h3, h4⟩ | ⟨h, _⟩
    · exact ⟨h3, h4⟩
    · exact absurd h h1

theorem stands_prop (at_ : Int) : StandsP propNd at_ := by
  have arg : ∀ i, argP propNd at_ i := fun i => ⟨fun h => by simp [propNd] at h; omega, fun _ => by unfold Nd.arg propNd; split <;> rfl⟩
  exact ⟨by show ar 13 ≠ -2; decide, fun h => by exact absurd h (by show ¬ (0 ≤ ar 13); decide), by decide, by decide, by decide, by decide, arg 0, arg 1, arg 2, by decide, by decide, fun h => absurd rfl h, fun h => by simp [propNd] at h, fun _ _ _ => rfl⟩
theorem stands_not2 {at_ : Int} (h : 2 < at_) : StandsP not2Nd at_ := by
  refine ⟨by show ar 1 ≠ -2; decide, fun _ => by show (1 : Int) = ar 1; decide, by decide, by decide, by decide, by decide, ⟨fun _ => ⟨by show (0 : Int) ≤ 2; decide, h⟩, fun h => ?_⟩, ⟨fun h => ?_, fun _ => rfl⟩, ⟨fun h => ?_, fun _ => rfl⟩, by decide, by decide, fun h => absurd rfl h, fun h => ?_, fun _ _ _ => rfl⟩
  · exact absurd h (by show ¬ ((1 : Int) ≤ 0); decide)
  · exact absurd h (by show ¬ ((1 : Int) < 1); decide)
  · exact absurd h (by show ¬ ((2 : Int) < 1); decide)
  · exact absurd h (by show ¬ ((1 : Int) = 10 ∨ (1 : Int) = 11 ∨ (1 : Int) = 12); decide)
theorem check_s3 : CheckP 3 s3 := check_new.ext (stands_prop _) (by
  intro i hi h
  have : i = 0 ∨ i = 1 := by omega
  rcases this with rfl | rfl <;> exact absurd (congrArg Nd.op h) (by decide))
theorem check_s4 : CheckP 4 s4 := check_s3.ext (stands_not2 (by decide)) (by
  intro i hi h
  have : i = 0 ∨ i = 1 ∨ i = 2 := by omega
  rcases this with rfl | rfl | rfl <;> exact absurd (congrArg Nd.op h) (by decide))
theorem bare_s2 (g : Bool) : BareR s4 2 g 2 g := .base (by decide)
theorem bare_s3 : BareR s4 3 false 2 true := .step (by decide) (bare_s2 true)
theorem args_s4 (x : Int) : ¬ argN 4 s4 x := by
  rintro ⟨p, q, h | h, hop, _⟩
  · have : p = 0 ∨ p = 1 ∨ p = 2 ∨ p = 3 := by omega
    rcases this with rfl | rfl | rfl | rfl
    · exact absurd hop (by decide)
    · exact absurd hop (by decide)
    · have h2 : (q : Int) < 0 := h.2
      omega
    · exact absurd hop (by decide)
  · omega
theorem euf_s4 (f : Nat → Int) (h0 : f 0 = 4) (h1 : f 1 = 0) : (eufL 4 s4 2 f).length = 1 := by
  have hm : mayT 4 s4 2 f = true := by
    rw [mayT_chk check_s4]
    unfold anyBadL anyBadL anyBadL
    rw [h0, h1]
    decide
  have e0 : eufB 4 s4 (f 0) = true := by
    unfold eufB
    rw [h0, show kindN 4 s4 (4 / 2) = 8 from by decide]
    rfl
  have e1 : eufB 4 s4 (f 1) = false := by
    unfold eufB
    rw [h1, show kindN 4 s4 (0 / 2) = 1 from by decide, @decide_eq_false _ (Classical.propDecidable _) (args_s4 _)]
    rfl
  unfold eufL
  rw [if_pos hm, filtL_no e1, filtL_yes e0]
  rfl
theorem OwnL.form {w : World} {b : Nat} {v : Value} {xs : List Int} (h : OwnL w b v xs) : ∃ A c, v = .slice A xs.length c := by
  rcases h.2 with ⟨rfl, h0⟩ | ⟨g, cap, cur, rfl, _⟩
  · exact ⟨none, 0, by rw [h0]⟩
  · exact ⟨_, _, rfl⟩
def f40 (i : Nat) : Int := if i = 0 then 4 else 0
theorem ints40 (w : World) : IntsAt (w.alloc (.cells #[.int .i64 4, .int .i64 0] 3)) (.slice (some ⟨w.heap.size, 0, none⟩) 2 2) 2 f40 := by
  refine ⟨_, _, rfl, by omega, fun i hi => ?_, fun _ => ⟨w.heap.size, 0, rfl, by simp, fun i hi => ?_⟩⟩
  · have : i = 0 ∨ i = 1 := by omega
    rcases this with rfl | rfl <;> exact ⟨by decide, by decide⟩
  · have : i = 0 ∨ i = 1 := by omega
    rcases this with rfl | rfl <;> simp [f40]

set_option maxHeartbeats 4000000 in
theorem wakes13_any (w : World) : Calls Try.prog 34 #[] w fun e w' => e = .returned (.bool true) ∧ Below w.heap.size w w' := by
  have hk3 : Hid (kindN 4 s4 3 = 2) := by unfold Hid; decide
  go_enter Try.func34, Try.ntmps34
  go_wp2_with fail
  refine (some13_any w).mono ?_
  rintro x w1 ⟨v1, rfl, hN1, hb1⟩
  go_wp2_with fail
  refine (Lit_any v1 4 s4 2 w1 hN1 (by omega) ⟨by decide, by decide⟩).mono ?_
  rintro x w2 ⟨a, e, rfl, hP, hb2⟩
  obtain ⟨rfl, rfl⟩ := hP.ok (i := 2) check_s4 (by omega) (bare_s2 false) (by decide) (by decide)
  have hbw2 := hb1.trans (hb2.mono hb1.size)
  clear hN1 hb1 hb2 hP
  go_wp2_with fail
  refine (some13_any w2).mono ?_
  rintro x w3 ⟨v3, rfl, hN3, hb3⟩
  go_wp2_with fail
  refine (Lit_any v3 4 s4 3 w3 hN3 (by omega) ⟨by decide, by decide⟩).mono ?_
  rintro x w4 ⟨a, e, rfl, hP, hb4⟩
  obtain ⟨rfl, rfl⟩ := hP.ok (i := 3) check_s4 (by omega) bare_s3 (by decide) (by decide)
  have hbw4 := hbw2.trans ((hb3.trans (hb4.mono hb3.size)).mono hbw2.size)
  clear hN3 hb3 hb4 hP hbw2
  go_wp2_with fail
  refine (some13_any w4).mono ?_
  rintro x w5 ⟨v5, rfl, hN5, hb5⟩
  go_wp2_with fail
  refine (Lit_any v5 4 s4 1 w5 hN5 (by omega) ⟨by decide, by decide⟩).mono ?_
  rintro x w6 ⟨a, e, rfl, hP, hb6⟩
  obtain ⟨rfl, rfl⟩ := hP.no (i := 1) check_s4 (by omega) (by decide)
  have hbw6 := hbw4.trans ((hb5.trans (hb6.mono hb5.size)).mono hbw4.size)
  clear hN5 hb5 hb6 hP hbw4
  rw [show litI 2 false = 4 from rfl, show litI 2 true = 5 from rfl]
  go_wp2_with fail
  refine (some13_any _).mono ?_
  rintro x w7 ⟨v7, rfl, hN7, hb7⟩
  go_wp2_with fail
  refine (Kind_any v7 4 s4 3 w7 hN7 (by omega) ⟨by decide, by decide⟩).mono ?_
  rintro x w8 ⟨rfl, hb8⟩
  rw [hk3.out]
  have hbw8 := hbw6.trans ((hb7.trans (hb8.mono hb7.size)).mono hbw6.size)
  clear hN7 hb7 hb8 hbw6
  go_wp2_with fail
  refine (some13_any _).mono ?_
  rintro x w9 ⟨v9, rfl, hN9, hb9⟩
  have hbw9 := hbw8.trans (hb9.mono hbw8.size)
  clear hb9 hbw8
  go_wp2_with fail
  refine (Euf_any v9 _ 4 2 s4 f40 _ (hN9.alloc _) (by omega) (ints40 w9) (by omega)).mono ?_
  rintro x w10 ⟨v10, rfl, ho, hb10⟩
  obtain ⟨A, c, rfl⟩ := ho.form
  have hbw10 := (hbw9.alloc hbw9.size _).trans (hb10.mono (by simp; have := hbw9.size; omega))
  rw [euf_s4 f40 rfl rfl]
  clear ho
  go_wp2
  go_ret
  exact ⟨rfl, hbw10⟩
end Go.Proofs.Ytoppfcfalciibaa
