/- offset.Add, gantryref01.Add. -/
import Derived.Test.YtoppfcfalciibaaOffD
import Derived.Deep.RegionHeld3
namespace Go.Proofs.Ytoppfcfalciibaa
open Go.RowKit Go.Maps
set_option maxRecDepth 100000

/-- What offset.Add gives. -/
inductive OAddR (n : Nat) (N : Nat → Nd) (id x most : Int) : Nat → (Nat → Nd) → Int → Int → Prop
  | of (b k er : Int) (h : OfT n N id b k er) (he : er ≠ 0) (M : Nat → Nd) : OAddR n N id x most 0 M 0 er
  | over (b k : Int) (h : OfT n N id b k 0) (ho : addOk k x = false) (M : Nat → Nd) : OAddR n N id x most 0 M 0 10
  | put (b k : Int) (h : OfT n N id b k 0) (ho : addOk k x = true) (m : Nat) (M : Nat → Nd) (a er : Int) (hp : OPutR n N b (k + x) most m M a er) : OAddR n N id x most m M a er
def OAddPost (n : Nat) (N : Nat → Nd) (id x most : Int) (w : World) (e : Ending) (w' : World) : Prop :=
  ∃ v' m M at_ er, e = .returned (.tuple #[.agg #[v'], .int .i64 at_, .int .i64 er]) ∧ OAddR n N id x most m M at_ er ∧ NdsAt w' v' m M ∧ Below w.heap.size w w'
/-- The boxes of Add: the table's at w.heap.size, the result's behind it, the summer's at G. -/
structure AB (w : World) (A : Option Addr) (n c G : Nat) (k er : Int) (x : World) : Prop where
  bx : Bx w ((w.heap.size + 1, 0, .slice none 0 0) :: (w.heap.size, 0, .slice A n c) :: []) x
  s : SBox G k er x
  fr : x.frozen? ⟨w.heap.size + 1, 0, none⟩ = false
  hG : w.heap.size + 1 < G
theorem AB.step {w x y : World} {A : Option Addr} {n c G : Nat} {k er : Int} (h : AB w A n c G k er x) (hb : Below x.heap.size x y) : AB w A n c G k er y :=
  ⟨h.bx.step hb, h.s.step hb, (hb.frozen (p := ⟨w.heap.size + 1, 0, none⟩) h.bx.cells.1.2).trans h.fr, h.hG⟩
theorem AB.drew {w x : World} {A : Option Addr} {n c G : Nat} {k er : Int} (h : AB w A n c G k er x) : AB w A n c G k er x.drew := h.step (Below.refl _ _).drew
theorem AB.S {w x : World} {A : Option Addr} {n c G : Nat} {k er : Int} (h : AB w A n c G k er x) : x.cell? ⟨w.heap.size, 0, none⟩ = some (.slice A n c) ∧ x.cell? ⟨G, 0, none⟩ = some (.int .i64 k) ∧ x.cell? ⟨G, 1, none⟩ = some (.int .i64 er) := ⟨h.bx.cells.2.1.1, h.s.n, h.s.e⟩
theorem AB.Sset {w x : World} {A : Option Addr} {n c G : Nat} {k er : Int} (h : AB w A n c G k er x) (u : Value) : (x.setCell ⟨w.heap.size + 1, 0, none⟩ u).cell? ⟨w.heap.size, 0, none⟩ = some (.slice A n c) ∧ (x.setCell ⟨w.heap.size + 1, 0, none⟩ u).cell? ⟨G, 0, none⟩ = some (.int .i64 k) ∧ (x.setCell ⟨w.heap.size + 1, 0, none⟩ u).cell? ⟨G, 1, none⟩ = some (.int .i64 er) := by
  have hG := h.hG
  exact ⟨(World.cell?_setCell_far _ _ _ _ (by show w.heap.size + 1 ≠ w.heap.size; omega)).trans h.S.1, (World.cell?_setCell_far _ _ _ _ (by show w.heap.size + 1 ≠ G; omega)).trans h.S.2.1, (World.cell?_setCell_far _ _ _ _ (by show w.heap.size + 1 ≠ G; omega)).trans h.S.2.2⟩

set_option maxHeartbeats 4000000 in
theorem OAdd_any (v : Value) (n : Nat) (N : Nat → Nd) (id x most : Int) (w : World) (hv : NdsAt w v n N) (hn : n ≤ 1000000) (hid : R64 id) (hx : R64 x) (hm : R64 most) :
    Calls Try.prog 41 #[.agg #[v], .int .i64 id, .int .i64 x, .int .i64 most] w (OAddPost n N id x most w) := by
  have hv' := Lib.hid hv
  obtain ⟨A, cp, rfl, _, _, _⟩ := hv
  have hx0 := bx_two w A n cp 24 24
  have hf0 := frz_two w A n cp 24 24
  go_enter Try.func41, Try.ntmps41
  go_wp2_with fail
  refine (Of_any _ n N id _ (hv'.out.below hx0.bel) hn hid).mono ?_
  rintro e w2 ⟨b, k, e2, rfl, hT, hb2⟩
  have hx2 := hx0.step hb2
  have hf2 : w2.frozen? ⟨w.heap.size + 1, 0, none⟩ = false := (hb2.frozen (p := ⟨w.heap.size + 1, 0, none⟩) (by simp)).trans hf0
  obtain ⟨hRb, hmk, _⟩ := hT.R hn
  have hmk' := Lib.hid hmk
  clear hf0 hx0 hb2 hmk
  have hAB : AB w A n cp w2.heap.size k e2 (w2.alloc (.cells #[.int .i64 k, .int .i64 e2] 109)) :=
    ⟨hx2.skip _, ⟨by simp, by simp, by simp, by simp, by simp⟩, (((Below.refl w2.heap.size w2).alloc (Nat.le_refl _) _).frozen (p := ⟨w.heap.size + 1, 0, none⟩) hx2.cells.1.2).trans hf2, hx2.cells.1.2⟩
  clear hf2
  generalize hW3 : w2.alloc (.cells #[.int .i64 k, .int .i64 e2] 109) = w3 at *
  go_wp2_with fail
  refine (Sadd_any w2.heap.size k e2 x w3 hAB.s (may_R hmk'.out) hx).mono ?_
  rintro e w4 ⟨⟨v4, rfl⟩, hs4, hb4⟩
  have hG := hAB.hG
  have hbw4 : Below w.heap.size w w4 := hAB.bx.bel.trans (hb4.mono (by omega))
  have hsz : w2.heap.size < w4.heap.size := hs4.lt
  have hAB4 : AB w A n cp w2.heap.size (if e2 = 0 then (if addOk k x then k + x else 0) else k) (if e2 = 0 then (if addOk k x then 0 else 10) else e2) w4 :=
    ⟨⟨⟨⟨(hb4.cell (p := ⟨w.heap.size + 1, 0, none⟩) hG).trans hAB.bx.cells.1.1, by omega⟩, ⟨(hb4.cell (p := ⟨w.heap.size, 0, none⟩) (by show w.heap.size < _; omega)).trans hAB.bx.cells.2.1.1, by omega⟩, trivial⟩, hbw4⟩, hs4, (hb4.frozen (p := ⟨w.heap.size + 1, 0, none⟩) hG).trans hAB.fr, hG⟩
  clear hs4 hb4 hAB hW3 hbw4 hx2 hsz
  by_cases he : e2 = 0
  · rw [if_pos he, if_pos he] at hAB4
    subst he
    cases ho : addOk k x with
    | true =>
      rw [ho, if_pos rfl, if_pos rfl] at hAB4
      have hR := fun m M a er => OAddR.put (most := most) b k hT ho m M a er
      have hR' := Lib.hid hR
      have hRk : R64 (k + x) := addOk_R ho
      have ho' := Lib.hid ho
      clear ho hR hT
      obtain ⟨s0, s1, _, _, _⟩ := hAB4.s
      have hPA := OPut_any (.slice A n cp) n N b (k + x) most w4.drew (hv'.out.below hAB4.drew.bx.bel) hn (by unfold R64; omega) hRk hm
      obtain ⟨q0, z0⟩ := hAB4.bx.cells.2.1
      have hAB4' := Lib.hid hAB4
      clear hAB4
      go_wp2
      have hS0 := hAB4'.out.drew.S
      go_region_held3 (fun y => y.cell? ⟨w.heap.size, 0, none⟩ = some (.slice A n cp) ∧ y.cell? ⟨w2.heap.size, 0, none⟩ = some (.int .i64 (k + x)) ∧ y.cell? ⟨w2.heap.size, 1, none⟩ = some (.int .i64 0))
        (first | exact hS0 | exact hS1 | exact hS2 | fail)
        (first | (go_at_call 74; (with_reducible refine Calls.mono hPA ?_); rintro e w5 ⟨v5, m5, M5, a5, e5, rfl, hR5, hN5, hb5⟩; have hAB5 := hAB4'.out.drew.step hb5; have hS1 := hAB5.S; have r5 := hAB5.bx.cells.1.1; have f5 := hAB5.fr; have hN5' := Lib.hid hN5; (obtain ⟨A5, c5, rfl, _, _, _⟩ := hN5); have hS2 := hAB5.Sset (.slice A5 m5 c5)))
      go_wp2
      exact bodyPost_ret (results_tab2 rfl _ _ (w.heap.size + 1) (.slice A5 m5 c5) rfl (hAB5.bx.res _)) rfl ⟨_, m5, M5, a5, e5, rfl, hR'.out _ _ _ _ hR5, hN5'.out.setBox r5 (fun _ _ h => by cases h) _, hAB5.bx.bset _ _ (by omega) _⟩
    | false =>
      rw [ho, if_neg (by decide), if_neg (by decide)] at hAB4
      have hR := Lib.hid (OAddR.over (most := most) b k hT ho N)
      clear ho hT
      obtain ⟨s0, s1, _, _, _⟩ := hAB4.s
      obtain ⟨r0, zr⟩ := hAB4.bx.cells.1
      have f0 := hAB4.fr
      have hAB4' := Lib.hid hAB4
      clear hAB4
      go_wp2
      have hS0 := hAB4'.out.drew.S
      have hS1 := hAB4'.out.drew.Sset (.slice none 0 0)
      go_region_held3 (fun y => y.cell? ⟨w.heap.size, 0, none⟩ = some (.slice A n cp) ∧ y.cell? ⟨w2.heap.size, 0, none⟩ = some (.int .i64 0) ∧ y.cell? ⟨w2.heap.size, 1, none⟩ = some (.int .i64 10))
        (first | exact hS0 | exact hS1 | fail) (first | fail)
      go_wp2
      exact bodyPost_ret (results_tab2 rfl _ _ (w.heap.size + 1) (.slice none 0 0) rfl (hAB4'.out.drew.bx.res _)) rfl ⟨_, 0, N, 0, 10, rfl, hR.out, NdsAt.nil _ _, hAB4'.out.drew.bx.bset _ _ (by omega) _⟩
  · rw [if_neg he, if_neg he] at hAB4
    have hR := Lib.hid (OAddR.of (x := x) (most := most) b k e2 hT he N)
    have d2 : (e2 != 0) = true := by simpa using he
    clear he hT
    obtain ⟨s0, s1, _, _, _⟩ := hAB4.s
    obtain ⟨r0, zr⟩ := hAB4.bx.cells.1
    have f0 := hAB4.fr
    have hAB4' := Lib.hid hAB4
    clear hAB4
    go_wp2
    have hS0 := hAB4'.out.drew.S
    have hS1 := hAB4'.out.drew.Sset (.slice none 0 0)
    go_region_held3 (fun y => y.cell? ⟨w.heap.size, 0, none⟩ = some (.slice A n cp) ∧ y.cell? ⟨w2.heap.size, 0, none⟩ = some (.int .i64 k) ∧ y.cell? ⟨w2.heap.size, 1, none⟩ = some (.int .i64 e2))
      (first | exact hS0 | exact hS1 | fail) (first | fail)
    go_wp2
    exact bodyPost_ret (results_tab2 rfl _ _ (w.heap.size + 1) (.slice none 0 0) rfl (hAB4'.out.drew.bx.res _)) rfl ⟨_, 0, N, 0, e2, rfl, hR.out, NdsAt.nil _ _, hAB4'.out.drew.bx.bset _ _ (by omega) _⟩

theorem RAdd_any (a b : Int) (w : World) (ha : R64 a) (hb : R64 b) :
    Calls Try.prog 43 #[.int .i64 a, .int .i64 b] w fun e w' => e = .returned (numV (addOk a b) (a + b)) ∧ w = w' := by
  have hV := addOk_wrap a b
  have hv2 := fun h => @addOk_val a b h
  cases h1 : mayB a with
  | false =>
    have hno : Hid (addOk a b = false) := by unfold Hid addOk; rw [h1]; rfl
    clear hV hv2
    go_enter Try.func43, Try.ntmps43
    go_wp2_with fail
    refine (RMay_any a w ha.1 ha.2).mono ?_
    rintro e w2 ⟨rfl, rfl⟩
    rw [h1]
    clear h1
    go_wp2
    go_ret2
    exact ⟨by rw [numV_no hno.out]; rfl, rfl⟩
  | true =>
    cases h2 : mayB b with
    | false =>
      have hno : Hid (addOk a b = false) := by unfold Hid addOk; rw [h1, h2]; rfl
      have h1' := Lib.hid h1
      have h2' := Lib.hid h2
      clear hV hv2 h1 h2
      go_enter Try.func43, Try.ntmps43
      go_wp2_with fail
      refine (RMay_any a w ha.1 ha.2).mono ?_
      rintro e w2 ⟨rfl, rfl⟩
      rw [h1'.out]
      go_wp2_with fail
      refine (RMay_any b w hb.1 hb.2).mono ?_
      rintro e w2 ⟨rfl, rfl⟩
      rw [h2'.out]
      go_wp2
      go_ret2
      exact ⟨by rw [numV_no hno.out]; rfl, rfl⟩
    | true =>
      have hR := Lib.hid (wrap64_R (a + b))
      have h1' := Lib.hid h1
      have h2' := Lib.hid h2
      rw [h1, h2] at hV
      simp only [Bool.true_and] at hV
      cases h3 : addOk a b with
      | true =>
        rw [h3] at hV
        have hV' := Lib.hid hV
        have hv3 := Lib.hid (hv2 h3)
        have h3' := Lib.hid h3
        clear hV hv2 h1 h2 h3
        go_enter Try.func43, Try.ntmps43
        go_wp2_with fail
        refine (RMay_any a w ha.1 ha.2).mono ?_
        rintro e w2 ⟨rfl, rfl⟩
        rw [h1'.out]
        go_wp2_with fail
        refine (RMay_any b w hb.1 hb.2).mono ?_
        rintro e w2 ⟨rfl, rfl⟩
        rw [h2'.out]
        go_wp2_with fail
        refine (RMay_any (wrap64 (a + b)) w hR.out.1 hR.out.2).mono ?_
        rintro e w2 ⟨rfl, rfl⟩
        rw [hV'.out]
        go_wp2
        go_ret2
        exact ⟨by rw [numV_yes rfl]; exact congrArg (fun z => Ending.returned (.tuple #[.int .i64 z, .int .i64 0])) hv3.out, rfl⟩
      | false =>
        rw [h3] at hV
        have hV' := Lib.hid hV
        have h3' := Lib.hid h3
        clear hV hv2 h1 h2 h3
        go_enter Try.func43, Try.ntmps43
        go_wp2_with fail
        refine (RMay_any a w ha.1 ha.2).mono ?_
        rintro e w2 ⟨rfl, rfl⟩
        rw [h1'.out]
        go_wp2_with fail
        refine (RMay_any b w hb.1 hb.2).mono ?_
        rintro e w2 ⟨rfl, rfl⟩
        rw [h2'.out]
        go_wp2_with fail
        refine (RMay_any (wrap64 (a + b)) w hR.out.1 hR.out.2).mono ?_
        rintro e w2 ⟨rfl, rfl⟩
        rw [hV'.out]
        go_wp2
        go_ret2
        exact ⟨rfl, rfl⟩
end Go.Proofs.Ytoppfcfalciibaa
