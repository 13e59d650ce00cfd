/- gantrylaw11.x, gantrylaw11.wakes. -/
import Derived.Test.YtoppfcfalciibaaOffD
import Derived.Test.YtoppfcfalciibaaOffE
namespace Go.Proofs.Ytoppfcfalciibaa
open Go.RowKit Go.Maps
set_option maxRecDepth 100000

def OfV (n : Nat) (N : Nat → Nd) (id X K : Int) : Prop := CheckP n N ∧ ∃ i b : Nat, id = i ∧ i < n ∧ (N i).sort = 1 ∧ X = b ∧ OfR N i 0 (some (b, K))
theorem OfT.val {n : Nat} {N : Nat → Nd} {id b k er X K : Int} (h : OfT n N id b k er) (hv : OfV n N id X K) : b = X ∧ k = K ∧ er = 0 := by
  obtain ⟨hc, i, b', rfl, hi, hs, rfl, ho⟩ := hv
  cases h with
  | arg h => exact absurd ⟨hc, by omega, by omega⟩ h
  | sort _ i' _ e h => have : i' = i := by omega
                       subst this; exact absurd hs h
  | over _ i' _ e _ h =>
    have : i' = i := by omega
    subst this; have := ofR_det h ho; cases this
  | ok _ i' _ e _ b'' k' h =>
    have : i' = i := by omega
    subst this
    have := ofR_det h ho
    injection this with this
    injection this with e1 e2
    exact ⟨by omega, e2, rfl⟩
theorem DiffT.val {n : Nat} {N : Nat → Nd} {a b c x y d er X M Y K : Int} (h : DiffT n N a b c x y d er) (ha : OfV n N a X M) (hb : OfV n N b Y K) (h1 : subOk c M = true) (h2 : addOk (c - M) K = true) : x = X ∧ y = Y ∧ d = c - M + K ∧ er = 0 := by
  cases h with
  | e1 _ _ _ h he => exact absurd (h.val ha).2.2 he
  | e2 _ _ _ _ _ _ h he => exact absurd (h.val hb).2.2 he
  | over _ _ h _ _ h' ho =>
    obtain ⟨_, e1, _⟩ := h.val ha
    obtain ⟨_, e2, _⟩ := h'.val hb
    rw [e1, e2] at ho; exact absurd ⟨h1, h2⟩ ho
  | ok _ _ h _ _ h' =>
    obtain ⟨e0, e1, _⟩ := h.val ha
    obtain ⟨e2, e3, _⟩ := h'.val hb
    exact ⟨e0, e2, by rw [e1, e3], rfl⟩

def appNd : Nd := ⟨13, 0, 0, 0, 0, 1, 0, 0⟩
def x3 : Nat → Nd := extN newN 2 appNd
def x4 : Nat → Nd := extN x3 3 (addNd 2 1)
def x5 : Nat → Nd := extN x4 4 (addNd 3 2)
theorem appNd_R : NdR appNd := ⟨⟨by decide, by decide⟩, ⟨by decide, by decide⟩, R64_0, R64_0, R64_0, ⟨by decide, by decide⟩, R64_0, R64_0⟩
theorem stands_app (at_ : Int) : StandsP appNd at_ := by
  have arg : ∀ i, argP appNd at_ i := fun i => ⟨fun h => by simp [appNd] at h; omega, fun _ => by unfold Nd.arg appNd; split <;> rfl⟩
  exact ⟨by show ar 13 ≠ -2; decide, fun h => by exact absurd h (by show ¬ (0 ≤ ar 13); decide), by decide, by decide, by decide, by decide, arg 0, arg 1, arg 2, by decide, by decide, fun h => absurd rfl h, fun h => by simp [appNd] at h, fun _ _ _ => rfl⟩
theorem stands_add {b k at_ : Int} (h0 : 0 ≤ b) (h1 : b < at_) (hk : mayB k = true) : StandsP (addNd b k) at_ := by
  refine ⟨by show ar 11 ≠ -2; decide, fun _ => by show (1 : Int) = ar 11; decide, by show (0 : Int) ≤ 1; decide, by show (1 : Int) ≤ 3; decide, by show (0 : Int) ≤ 1; decide, by show (1 : Int) < 6; decide, ⟨fun _ => ⟨h0, h1⟩, fun h => ?_⟩, ⟨fun h => ?_, fun _ => rfl⟩, ⟨fun h => ?_, fun _ => rfl⟩, by show (0 : Int) ≤ 0; decide, by show (0 : Int) < 12; decide, fun h => absurd rfl h, fun _ => hk, fun _ h => absurd rfl h⟩
  · exact absurd h (by show ¬ ((1 : Int) ≤ 0); decide)
  · exact absurd h (by show ¬ ((1 : Int) < 1); decide)
  · exact absurd h (by show ¬ ((2 : Int) < 1); decide)
theorem stands_not {at_ : Int} (h : 0 < at_) : StandsP notNd at_ := by
  refine ⟨by show ar 1 ≠ -2; decide, fun _ => by show (1 : Int) = ar 1; decide, by decide, by decide, by decide, by decide, ⟨fun _ => ⟨by show (0 : Int) ≤ 0; decide, h⟩, fun h => rfl⟩, ⟨fun h => ?_, fun _ => rfl⟩, ⟨fun h => ?_, fun _ => rfl⟩, by decide, by decide, fun h => absurd rfl h, fun h => ?_, fun _ _ _ => rfl⟩
  · exact absurd h (by show ¬ ((1 : Int) < 1); decide)
  · exact absurd h (by show ¬ ((2 : Int) < 1); decide)
  · exact absurd h (by show ¬ ((1 : Int) = 10 ∨ (1 : Int) = 11 ∨ (1 : Int) = 12); decide)
theorem new_app : ∀ i, i < 2 → newN i ≠ appNd := by
  intro i hi h
  have : i = 0 ∨ i = 1 := by omega
  rcases this with rfl | rfl <;> exact absurd (congrArg Nd.op h) (by decide)
theorem check_x3 : CheckP 3 x3 := check_new.ext (stands_app _) new_app
theorem x3_ne : ∀ i, i < 3 → x3 i ≠ addNd 2 1 := by
  intro i hi h
  have : i = 0 ∨ i = 1 ∨ i = 2 := by omega
  rcases this with rfl | rfl | rfl <;> exact absurd (congrArg Nd.op h) (by decide)
theorem check_x4 : CheckP 4 x4 := check_x3.ext (stands_add (by decide) (by decide) (by decide)) x3_ne
theorem x4_ne : ∀ i, i < 4 → x4 i ≠ addNd 3 2 := by
  intro i hi h
  have : i = 0 ∨ i = 1 ∨ i = 2 ∨ i = 3 := by omega
  rcases this with rfl | rfl | rfl | rfl
  · exact absurd (congrArg Nd.op h) (by decide)
  · exact absurd (congrArg Nd.op h) (by decide)
  · exact absurd (congrArg Nd.op h) (by decide)
  · exact absurd (congrArg Nd.num h) (by decide)
theorem check_x5 : CheckP 5 x5 := check_x4.ext (stands_add (by decide) (by decide) (by decide)) x4_ne
theorem x5_ne : ∀ i, i < 5 → x5 i ≠ notNd := by
  intro i hi h
  have : i = 0 ∨ i = 1 ∨ i = 2 ∨ i = 3 ∨ i = 4 := by omega
  rcases this with rfl | rfl | rfl | rfl | rfl <;> exact absurd (congrArg Nd.op h) (by decide)
theorem x5_of4 : OfV 5 x5 4 2 3 := by
  refine ⟨check_x5, 4, 2, rfl, by decide, by decide, rfl, .add (by decide) (by decide) ?_⟩
  have e : (x5 4).a0.toNat = 3 := by decide
  rw [e]
  refine .add (by decide) (by decide) ?_
  have e : (x5 3).a0.toNat = 2 := by decide
  rw [e]
  have e : 0 + (x5 4).num + (x5 3).num = 3 := by decide
  rw [e]
  exact .base (by decide) (by decide)
theorem x5_of3 : OfV 5 x5 3 2 1 := by
  refine ⟨check_x5, 3, 2, rfl, by decide, by decide, rfl, .add (by decide) (by decide) ?_⟩
  have e : (x5 3).a0.toNat = 2 := by decide
  rw [e]
  have e : 0 + (x5 3).num = 1 := by decide
  rw [e]
  exact .base (by decide) (by decide)
theorem x5_of1 : OfV 5 x5 1 1 0 := by
  refine ⟨check_x5, 1, 1, rfl, by decide, by decide, rfl, ?_⟩
  have := OfR.num (N := x5) (i := 1) (k := 0) (by decide) (by decide)
  exact this
theorem x5_le {m : Nat} {M : Nat → Nd} {id er : Int} {is : Bool} (h : LeT 5 x5 4 3 1 99 m M id is er) : id = 5 ∧ is = false ∧ er = 0 := by
  cases h with
  | err _ _ _ _ h he => exact absurd (h.val x5_of4 x5_of3 (by decide) (by decide)).2.2.2 he
  | tru _ _ h hd => have := (h.val x5_of4 x5_of3 (by decide) (by decide)).2.2.1; omega
  | fls _ _ h hd _ _ _ _ hp =>
    obtain ⟨_, _, e1, e2⟩ := hp.new check_x5 (stands_not (by decide)) x5_ne (by decide)
    exact ⟨e1, rfl, e2⟩
  | diff _ _ _ h hxy =>
    obtain ⟨e1, e2, _⟩ := h.val x5_of4 x5_of3 (by decide) (by decide)
    exact absurd (e1.trans e2.symm) hxy
theorem x5_ord : ordB 5 x5 = false := by
  cases h : ordB 5 x5 with
  | false => rfl
  | true =>
    have := (ordB_iff.1 h).ord 4 (by decide) (by decide)
    exact absurd this.2.1 (by decide)

/-- Two boxes of the call's own: the result's at B, a table's at G. -/
structure XB (w : World) (B G : Nat) (v u : Value) (x : World) : Prop where
  bx : Bx w ((G, 0, v) :: (B, 0, u) :: []) x
  fg : x.frozen? ⟨G, 0, none⟩ = false
  fb : x.frozen? ⟨B, 0, none⟩ = false
theorem XB.step {w x y : World} {B G : Nat} {v u : Value} (h : XB w B G v u x) (hb : Below x.heap.size x y) : XB w B G v u y :=
  ⟨h.bx.step hb, (hb.frozen (p := ⟨G, 0, none⟩) h.bx.cells.1.2).trans h.fg, (hb.frozen (p := ⟨B, 0, none⟩) h.bx.cells.2.1.2).trans h.fb⟩
theorem XB.set {w x : World} {B G : Nat} {v u : Value} (h : XB w B G v u x) (v' : Value) (hne : B ≠ G) (hG : w.heap.size ≤ G) : XB w B G v' u (x.setCell ⟨G, 0, none⟩ v') :=
  ⟨h.bx.set v' (by intro a ha; simp at ha; subst ha; exact hne) hG, by rw [World.frozen?_setCell]; exact h.fg, by rw [World.frozen?_setCell]; exact h.fb⟩

set_option maxHeartbeats 2000000 in
theorem x_any (w : World) : Calls Try.prog 55 #[] w fun e w' => ∃ v, e = .returned (.agg #[v]) ∧ NdsAt w' v 5 x5 ∧ Below w.heap.size w w' := by
  go_enter Try.func55, Try.ntmps55
  go_wp2_with fail
  refine (New_any _).mono ?_
  rintro e w2 ⟨v2, rfl, hN2, hb2⟩
  have hx2 := ((Bx.nil w).one (.slice none 0 0) 24).step hb2
  have hf2 : w2.frozen? ⟨w.heap.size, 0, none⟩ = false := (hb2.frozen (p := ⟨w.heap.size, 0, none⟩) (by simp)).trans (by simp)
  have hN2' := Lib.hid hN2
  obtain ⟨A2, c2, rfl, _, _, _⟩ := hN2
  have hz2 : w.heap.size < w2.heap.size := hx2.cells.1.2
  have hX3 : XB w w.heap.size w2.heap.size (.slice A2 2 c2) (.slice none 0 0) (w2.alloc (.cells #[.slice A2 2 c2] 24)) :=
    ⟨hx2.one (.slice A2 2 c2) 24, by simp, (((Below.refl w2.heap.size w2).alloc (Nat.le_refl _) _).frozen (p := ⟨w.heap.size, 0, none⟩) hz2).trans hf2⟩
  have hN3 := Lib.hid (hN2'.out.alloc (.cells #[.slice A2 2 c2] 24))
  clear hx2 hf2 hb2 hN2'
  generalize hW3 : w2.alloc (.cells #[.slice A2 2 c2] 24) = w3 at *
  have hGB : w.heap.size ≠ w2.heap.size := by omega
  have hwG : w.heap.size ≤ w2.heap.size := by omega
  obtain ⟨⟨g0, z0⟩, -⟩ := hX3.bx.cells
  go_wp2_with fail
  refine (Put_any _ 2 newN appNd 99 w3 hN3.out (by omega) appNd_R ⟨by decide, by decide⟩).mono ?_
  rintro e w4 ⟨v4, m4, M4, a4, e4, rfl, hR4, hN4, hb4⟩
  obtain ⟨rfl, rfl, rfl, rfl⟩ := hR4.new check_new (stands_app _) new_app (by decide)
  have hX4 := hX3.step hb4
  have hN4' := Lib.hid hN4
  obtain ⟨A4, c4, rfl, _, _, _⟩ := hN4
  obtain ⟨⟨g1, z1⟩, -⟩ := hX4.bx.cells
  have f1 := hX4.fg
  have hX5 := hX4.set (.slice A4 3 c4) hGB hwG
  have hN5 := Lib.hid (hN4'.out.setBox g1 (fun _ _ h => by cases h) (.slice A4 3 c4))
  clear hX3 g0 z0 hR4 hb4 hN3 hX4 hN4' hW3
  obtain ⟨⟨g0, z0⟩, -⟩ := hX5.bx.cells
  go_wp2_with fail
  refine (Put_any _ 3 x3 (addNd 2 1) 99 _ hN5.out (by omega) (addNd_R ⟨by decide, by decide⟩ ⟨by decide, by decide⟩) ⟨by decide, by decide⟩).mono ?_
  rintro e w6 ⟨v6, m6, M6, a6, e6, rfl, hR6, hN6, hb6⟩
  obtain ⟨rfl, rfl, rfl, rfl⟩ := hR6.new check_x3 (stands_add (by decide) (by decide) (by decide)) x3_ne (by decide)
  have hX6 := hX5.step hb6
  have hN6' := Lib.hid hN6
  obtain ⟨A6, c6, rfl, _, _, _⟩ := hN6
  clear f1 g1 z1
  obtain ⟨⟨g1, z1⟩, -⟩ := hX6.bx.cells
  have f1 := hX6.fg
  have hX7 := hX6.set (.slice A6 4 c6) hGB hwG
  have hN7 := Lib.hid (hN6'.out.setBox g1 (fun _ _ h => by cases h) (.slice A6 4 c6))
  clear hX5 g0 z0 hR6 hb6 hN5 hX6 hN6'
  obtain ⟨⟨g0, z0⟩, -⟩ := hX7.bx.cells
  go_wp2_with fail
  refine (Put_any _ 4 x4 (addNd 3 2) 99 _ hN7.out (by omega) (addNd_R ⟨by decide, by decide⟩ ⟨by decide, by decide⟩) ⟨by decide, by decide⟩).mono ?_
  rintro e w8 ⟨v8, m8, M8, a8, e8, rfl, hR8, hN8, hb8⟩
  obtain ⟨rfl, rfl, rfl, rfl⟩ := hR8.new check_x4 (stands_add (by decide) (by decide) (by decide)) x4_ne (by decide)
  have hX8 := hX7.step hb8
  have hN8' := Lib.hid hN8
  obtain ⟨A8, c8, rfl, _, _, _⟩ := hN8
  clear f1 g1 z1
  obtain ⟨⟨g1, z1⟩, -⟩ := hX8.bx.cells
  have f1 := hX8.fg
  have hX9 := hX8.set (.slice A8 5 c8) hGB hwG
  have hN9 := Lib.hid (hN8'.out.setBox g1 (fun _ _ h => by cases h) (.slice A8 5 c8))
  clear hX7 g0 z0 hR8 hb8 hN7 hX8 hN8'
  obtain ⟨⟨g0, z0⟩, ⟨r0, zr⟩, -⟩ := hX9.bx.cells
  have fb := hX9.fb
  go_wp2
  refine bodyPost_ret (results_tab rfl _ _ w.heap.size (.slice A8 5 c8) rfl (World.cell?_setCell_same' _ _ _ (by rw [r0]; rfl))) rfl ⟨_, rfl, hN9.out.setBox r0 (fun _ _ h => by cases h) _, hX9.bx.bel.setCell (Nat.le_refl _) _⟩

set_option maxHeartbeats 4000000 in
theorem wakes11_any (w : World) : Calls Try.prog 26 #[] w fun e w' => e = .returned (.bool true) ∧ Below w.heap.size w w' := by
  go_enter Try.func26, Try.ntmps26
  go_wp2_with fail
  refine (x_any w).mono ?_
  rintro e w2 ⟨v2, rfl, hN2, hb2⟩
  go_wp2_with fail
  refine (Of_any v2 5 x5 4 w2 hN2 (by omega) ⟨by decide, by decide⟩).mono ?_
  rintro e w3 ⟨b3, k3, e3, rfl, hT3, hb3⟩
  obtain ⟨rfl, rfl, rfl⟩ := hT3.val x5_of4
  have hbw3 := hb2.trans (hb3.mono hb2.size)
  clear hN2 hb2 hb3 hT3
  go_wp2_with fail
  refine (x_any w3).mono ?_
  rintro e w4 ⟨v4, rfl, hN4, hb4⟩
  go_wp2_with fail
  refine (Diff_any v4 5 x5 4 1 10 w4 hN4 (by omega) ⟨by decide, by decide⟩ ⟨by decide, by decide⟩ ⟨by decide, by decide⟩).mono ?_
  rintro e w5 ⟨x5', y5, d5, e5, rfl, hT5, hb5⟩
  obtain ⟨rfl, rfl, rfl, rfl⟩ := hT5.val x5_of4 x5_of1 (by decide) (by decide)
  have hbw5 := hbw3.trans ((hb4.trans (hb5.mono hb4.size)).mono hbw3.size)
  clear hN4 hb4 hb5 hT5 hbw3
  go_wp2_with fail
  refine (x_any w5).mono ?_
  rintro e w6 ⟨v6, rfl, hN6, hb6⟩
  go_wp2_with fail
  refine (Le_any v6 5 x5 4 3 1 99 w6 hN6 (by omega) ⟨by decide, by decide⟩ ⟨by decide, by decide⟩ ⟨by decide, by decide⟩ ⟨by decide, by decide⟩).mono ?_
  rintro e w7 ⟨v7, m7, M7, id7, is7, e7, rfl, hT7, hN7, hb7⟩
  obtain ⟨rfl, rfl, rfl⟩ := x5_le hT7
  obtain ⟨A7, c7, rfl, _, _, _⟩ := hN7
  have hbw7 := hbw5.trans ((hb6.trans (hb7.mono hb6.size)).mono hbw5.size)
  clear hN6 hb6 hb7 hT7 hbw5
  go_wp2_with fail
  refine (x_any _).mono ?_
  rintro e w8 ⟨v8, rfl, hN8, hb8⟩
  have hbw8 : Below w.heap.size w w8 := (hbw7.alloc hbw7.size _).trans (hb8.mono (by simp; have := hbw7.size; omega))
  clear hb8 hbw7
  go_wp2_with fail
  refine (Ordered_any v8 5 x5 w8 hN8 (by omega)).mono ?_
  rintro e w9 ⟨rfl, hb9⟩
  rw [x5_ord]
  go_wp2
  go_ret
  exact ⟨rfl, hbw8.trans (hb9.mono hbw8.size)⟩
end Go.Proofs.Ytoppfcfalciibaa
