/- offset.Put, offset.Le. -/
import Derived.Test.YtecmoahadckomaaZOffBOffC
import Derived.Test.YtecmoahadckomaaZTermETermFNewY
import Derived.Test.YtecmoahadckomaaZSetBoxMkM
import Derived.Deep.RegionHeld3
import Derived.Test.YtecmoahadckomaaZTermCTermDaRCheck
import Derived.Test.YtecmoahadckomaaZCheckB
namespace Go.Proofs.Ytecmoahadckomaa
open Go.RowKit Go.Maps
set_option maxRecDepth 100000

def numNd (k : Int) : Nd := ⟨10, 0, 0, 0, 0, 1, 0, k⟩
def addNd (b k : Int) : Nd := ⟨11, 1, b, 0, 0, 1, 0, k⟩
def notNd : Nd := ⟨1, 1, 0, 0, 0, 0, 0, 0⟩
def diffNd (x y d : Int) : Nd := ⟨12, 2, x, y, 0, 0, 0, d⟩
theorem numNd_R {k : Int} (h : R64 k) : NdR (numNd k) := ⟨⟨by show -128 ≤ (10 : Int); decide, by show (10 : Int) ≤ 127; decide⟩, ⟨by show -128 ≤ (0 : Int); decide, by show (0 : Int) ≤ 127; decide⟩, R64_0, R64_0, R64_0, ⟨by show -9223372036854775808 ≤ (1 : Int); decide, by show (1 : Int) ≤ 9223372036854775807; decide⟩, R64_0, h⟩
theorem addNd_R {b k : Int} (hb : R64 b) (h : R64 k) : NdR (addNd b k) := ⟨⟨by show -128 ≤ (11 : Int); decide, by show (11 : Int) ≤ 127; decide⟩, ⟨by show -128 ≤ (1 : Int); decide, by show (1 : Int) ≤ 127; decide⟩, hb, R64_0, R64_0, ⟨by show -9223372036854775808 ≤ (1 : Int); decide, by show (1 : Int) ≤ 9223372036854775807; decide⟩, R64_0, h⟩
theorem notNd_R : NdR notNd := ⟨⟨by decide, by decide⟩, ⟨by decide, by decide⟩, R64_0, R64_0, R64_0, R64_0, R64_0, R64_0⟩
theorem diffNd_R {x y d : Int} (hx : R64 x) (hy : R64 y) (h : R64 d) : NdR (diffNd x y d) := ⟨⟨by show -128 ≤ (12 : Int); decide, by show (12 : Int) ≤ 127; decide⟩, ⟨by show -128 ≤ (2 : Int); decide, by show (2 : Int) ≤ 127; decide⟩, hx, hy, R64_0, R64_0, R64_0, h⟩

/-- What offset.Put gives. -/
inductive OPutR (n : Nat) (N : Nat → Nd) (base k most : Int) : Nat → (Nat → Nd) → Int → Int → Prop
  | of (b m er : Int) (h : OfT n N base b m er) (he : er ≠ 0) (M : Nat → Nd) : OPutR n N base k most 0 M 0 er
  | own (b m : Int) (h : OfT n N base b m 0) (hb : b ≠ base) (M : Nat → Nd) : OPutR n N base k most 0 M 0 2
  | over (m : Int) (h : OfT n N base base m 0) (hk : mayB k = false) (M : Nat → Nd) : OPutR n N base k most 0 M 0 10
  | zero (m : Int) (h : OfT n N base base m 0) (hk : mayB k = true) (hz : base = 1) (m' : Nat) (M : Nat → Nd) (a er : Int) (hp : PutR n N (numNd k) most m' M a er) : OPutR n N base k most m' M a er
  | same (m : Int) (h : OfT n N base base m 0) (hk : mayB k = true) (hz : base ≠ 1) (h0 : k = 0) : OPutR n N base k most n N base 0
  | add (m : Int) (h : OfT n N base base m 0) (hk : mayB k = true) (hz : base ≠ 1) (h0 : k ≠ 0) (m' : Nat) (M : Nat → Nd) (a er : Int) (hp : PutR n N (addNd base k) most m' M a er) : OPutR n N base k most m' M a er
def OPutPost (n : Nat) (N : Nat → Nd) (base k most : Int) (w : World) (x : Ending) (w' : World) : Prop :=
  ∃ v' m M at_ er, x = .returned (.tuple #[.agg #[v'], .int .i64 at_, .int .i64 er]) ∧ OPutR n N base k most m M at_ er ∧ NdsAt w' v' m M ∧ Below w.heap.size w w'
/-- The boxes of Put: the table, the result. -/
theorem Bx.res {w x : World} {K : List (Nat × Nat × Value)} {g : Nat} {v : Value} (h : Bx w ((g, 0, v) :: K) x) (u : Value) : (x.setCell ⟨g, 0, none⟩ u).cell? ⟨g, 0, none⟩ = some u := World.cell?_setCell_same' _ _ _ (by rw [h.cells.1.1]; rfl)
theorem Bx.bset {w x : World} {K : List (Nat × Nat × Value)} (h : Bx w K x) (g o : Nat) (hg : w.heap.size ≤ g) (u : Value) : Below w.heap.size w (x.setCell ⟨g, o, none⟩ u) := h.bel.setCell hg _
theorem bx_two (w : World) (A : Option Addr) (n c : Nat) (t t' : TypeId) : Bx w ((w.heap.size + 1, 0, .slice none 0 0) :: (w.heap.size, 0, .slice A n c) :: []) ((w.alloc (.cells #[.slice A n c] t)).alloc (.cells #[.slice none 0 0] t')) := by
  have h := ((Bx.nil w).one (.slice A n c) t).one (.slice none 0 0) t'
  rwa [World.size_alloc] at h
theorem frz_two (w : World) (A : Option Addr) (n c : Nat) (t t' : TypeId) : ((w.alloc (.cells #[.slice A n c] t)).alloc (.cells #[.slice none 0 0] t')).frozen? ⟨w.heap.size + 1, 0, none⟩ = false := by
  have : w.heap.size + 1 = (w.alloc (.cells #[.slice A n c] t)).heap.size := by simp
  rw [this]; simp

set_option maxHeartbeats 4000000 in
theorem OPut_any (v : Value) (n : Nat) (N : Nat → Nd) (base k most : Int) (w : World) (hv : NdsAt w v n N) (hn : n ≤ 1000000) (hb : R64 base) (hk : R64 k) (hm : R64 most) :
    Calls Try.prog 65 #[.agg #[v], .int .i64 base, .int .i64 k, .int .i64 most] w (OPutPost n N base k most w) := by
  have hv' := Lib.hid hv
  obtain ⟨A, cp, rfl, _, _, _⟩ := hv
  have hx0 := bx_two w A n cp 24 24
  have hf0 := frz_two w A n cp 24 24
  go_enter Try.func65, Try.ntmps65
  go_wp2_with fail
  refine (Of_any _ n N base _ (hv'.out.below hx0.bel) hn hb).mono ?_
  rintro e w2 ⟨x, m, e2, rfl, hT1, hb2⟩
  have hx2 := hx0.step hb2
  have hf2 : w2.frozen? ⟨w.heap.size + 1, 0, none⟩ = false := (hb2.frozen (p := ⟨w.heap.size + 1, 0, none⟩) (by simp)).trans hf0
  clear hf0 hx0 hb2
  obtain ⟨⟨r0, zr⟩, ⟨q0, z0⟩, -⟩ := hx2.cells
  by_cases he2 : e2 = 0
  · subst he2
    by_cases hxb : x = base
    · subst hxb
      cases hmy : mayB k with
      | true =>
        have hmy' := Lib.hid hmy
        by_cases hz : x = 1
        · subst hz
          go_wp2_with fail
          refine (May_any k w2 hk.1 hk.2).mono ?_
          rintro e w3 ⟨rfl, rfl⟩
          rw [hmy'.out]
          clear hmy
          go_wp2_with fail
          refine (Put_any _ n N (numNd k) most w2 (hv'.out.below hx2.bel) hn (numNd_R hk) hm).mono ?_
          rintro e w4 ⟨v4, m4, M4, a4, e4, rfl, hR4, hN4, hb4⟩
          have hR := Lib.hid (OPutR.zero m hT1 hmy'.out rfl m4 M4 a4 e4 hR4)
          have hx4 := hx2.step hb4
          have hf4 : w4.frozen? ⟨w.heap.size + 1, 0, none⟩ = false := (hb4.frozen (p := ⟨w.heap.size + 1, 0, none⟩) zr).trans hf2
          clear r0 zr q0 z0 hf2 hR4
          obtain ⟨⟨r0, zr⟩, ⟨q0, z0⟩, -⟩ := hx4.cells
          have hN4' := Lib.hid hN4
          obtain ⟨A4, c4, rfl, _, _, _⟩ := hN4
          go_wp2
          exact bodyPost_ret (results_tab2 rfl _ _ (w.heap.size + 1) (.slice A4 m4 c4) rfl (hx4.res _)) rfl ⟨_, m4, M4, a4, e4, rfl, hR.out, hN4'.out.setBox r0 (fun _ _ h => by cases h) _, hx4.bset _ _ (by omega) _⟩
        · have dz : (x == 1) = false := by simpa using hz
          by_cases h0 : k = 0
          · subst h0
            have hR := Lib.hid (OPutR.same (most := most) m hT1 hmy hz rfl)
            clear hmy hz
            go_wp2_with fail
            refine (May_any 0 w2 (by decide) (by decide)).mono ?_
            rintro e w3 ⟨rfl, rfl⟩
            rw [hmy'.out]
            go_wp2
            exact bodyPost_ret (results_tab2 rfl _ _ (w.heap.size + 1) (.slice A n cp) rfl (hx2.res _)) rfl ⟨_, n, N, x, 0, rfl, hR.out, hv'.out.below (hx2.bset _ _ (by omega) _), hx2.bset _ _ (by omega) _⟩
          · have d0 : (k == 0) = false := by simpa using h0
            have h0' := Lib.hid h0
            have hz' := Lib.hid hz
            clear hmy hz h0
            go_wp2_with fail
            refine (May_any k w2 hk.1 hk.2).mono ?_
            rintro e w3 ⟨rfl, rfl⟩
            rw [hmy'.out]
            go_wp2_with fail
            refine (Put_any _ n N (addNd x k) most w2 (hv'.out.below hx2.bel) hn (addNd_R hb hk) hm).mono ?_
            rintro e w4 ⟨v4, m4, M4, a4, e4, rfl, hR4, hN4, hb4⟩
            have hR := Lib.hid (OPutR.add m hT1 hmy'.out hz'.out h0'.out m4 M4 a4 e4 hR4)
            have hx4 := hx2.step hb4
            have hf4 : w4.frozen? ⟨w.heap.size + 1, 0, none⟩ = false := (hb4.frozen (p := ⟨w.heap.size + 1, 0, none⟩) zr).trans hf2
            clear r0 zr q0 z0 hf2 hR4
            obtain ⟨⟨r0, zr⟩, ⟨q0, z0⟩, -⟩ := hx4.cells
            have hN4' := Lib.hid hN4
            obtain ⟨A4, c4, rfl, _, _, _⟩ := hN4
            go_wp2
            exact bodyPost_ret (results_tab2 rfl _ _ (w.heap.size + 1) (.slice A4 m4 c4) rfl (hx4.res _)) rfl ⟨_, m4, M4, a4, e4, rfl, hR.out, hN4'.out.setBox r0 (fun _ _ h => by cases h) _, hx4.bset _ _ (by omega) _⟩
      | false =>
        have hR := Lib.hid (OPutR.over (most := most) m hT1 hmy N)
        have hmy' := Lib.hid hmy
        clear hmy
        go_wp2_with fail
        refine (May_any k w2 hk.1 hk.2).mono ?_
        rintro e w3 ⟨rfl, rfl⟩
        rw [hmy'.out]
        go_wp2
        exact bodyPost_ret (results_tab2 rfl _ _ (w.heap.size + 1) (.slice none 0 0) rfl (hx2.res _)) rfl ⟨_, 0, N, 0, 10, rfl, hR.out, NdsAt.nil _ _, hx2.bset _ _ (by omega) _⟩
    · have dx : (x != base) = true := by simpa using hxb
      have hR := Lib.hid (OPutR.own (k := k) (most := most) x m hT1 hxb N)
      clear hxb
      go_wp2
      exact bodyPost_ret (results_tab2 rfl _ _ (w.heap.size + 1) (.slice none 0 0) rfl (hx2.res _)) rfl ⟨_, 0, N, 0, 2, rfl, hR.out, NdsAt.nil _ _, hx2.bset _ _ (by omega) _⟩
  · have d2 : (e2 != 0) = true := by simpa using he2
    have hR := Lib.hid (OPutR.of (k := k) (most := most) x m e2 hT1 he2 N)
    clear he2
    go_wp2
    exact bodyPost_ret (results_tab2 rfl _ _ (w.heap.size + 1) (.slice none 0 0) rfl (hx2.res _)) rfl ⟨_, 0, N, 0, e2, rfl, hR.out, NdsAt.nil _ _, hx2.bset _ _ (by omega) _⟩

/-- What Le gives. -/
inductive LeT (n : Nat) (N : Nat → Nd) (a b c most : Int) : Nat → (Nat → Nd) → Int → Bool → Int → Prop
  | err (x y d er : Int) (h : DiffT n N a b c x y d er) (he : er ≠ 0) (M : Nat → Nd) : LeT n N a b c most 0 M 0 false er
  | tru (x d : Int) (h : DiffT n N a b c x x d 0) (hd : 0 ≤ d) : LeT n N a b c most n N 0 false 0
  | fls (x d : Int) (h : DiffT n N a b c x x d 0) (hd : d < 0) (m : Nat) (M : Nat → Nd) (id er : Int) (hp : PutR n N notNd most m M id er) : LeT n N a b c most m M id false er
  | diff (x y d : Int) (h : DiffT n N a b c x y d 0) (hxy : x ≠ y) (m : Nat) (M : Nat → Nd) (id er : Int) (hp : PutR n N (diffNd x y d) most m M id er) : LeT n N a b c most m M id (er == 0) er
def LePost (n : Nat) (N : Nat → Nd) (a b c most : Int) (w : World) (x : Ending) (w' : World) : Prop :=
  ∃ v' m M id is er, x = .returned (.tuple #[.agg #[v'], .int .i64 id, .bool is, .int .i64 er]) ∧ LeT n N a b c most m M id is er ∧ NdsAt w' v' m M ∧ Below w.heap.size w w'
theorem results_tab3 {fn : Func} {p u x y : Tmp} (h : fn.results = #[.cell p 24, .tmp u, .tmp x, .tmp y]) (tmps : Array Value) (w : World) (g : Nat) (v : Value)
    (hp : tmps.getD p undef = .pointer (some ⟨g, 0, none⟩)) (hc : w.cell? ⟨g, 0, none⟩ = some v) : (results fn tmps).run Try.prog w = .ok (.tuple #[.agg #[v], tmps.getD u undef, tmps.getD x undef, tmps.getD y undef]) w := by
  have hp' : tmps[p]?.getD undef = .pointer (some ⟨g, 0, none⟩) := by simpa using hp
  simp [results, h, hp', asAddr, run_loadTab w g v hc, Result.andThen]
theorem DiffT.R {n : Nat} {N : Nat → Nd} {a b c x y d er : Int} (h : DiffT n N a b c x y d er) (hn : n ≤ 1000000) : R64 x ∧ R64 y ∧ R64 d := by
  cases h with
  | e1 => exact ⟨R64_0, R64_0, R64_0⟩
  | e2 => exact ⟨R64_0, R64_0, R64_0⟩
  | over => exact ⟨R64_0, R64_0, R64_0⟩
  | ok x' m h y' k h' h1 h2 =>
    obtain ⟨hx, _⟩ := h.R hn
    obtain ⟨hy, _⟩ := h'.R hn
    unfold addOk at h2
    simp only [Bool.and_eq_true] at h2
    exact ⟨by unfold R64; omega, by unfold R64; omega, may_R h2.2⟩

set_option maxHeartbeats 4000000 in
theorem Le_any (v : Value) (n : Nat) (N : Nat → Nd) (a b c most : Int) (w : World) (hv : NdsAt w v n N) (hn : n ≤ 1000000) (ha : R64 a) (hb : R64 b) (hc : R64 c) (hm : R64 most) :
    Calls Try.prog 82 #[.agg #[v], .int .i64 a, .int .i64 b, .int .i64 c, .int .i64 most] w (LePost n N a b c most w) := by
  have hv' := Lib.hid hv
  obtain ⟨A, cp, rfl, _, _, _⟩ := hv
  have hx0 := bx_two w A n cp 24 24
  have hf0 := frz_two w A n cp 24 24
  go_enter Try.func82, Try.ntmps82
  go_wp2_with fail
  refine (Diff_any _ n N a b c _ (hv'.out.below hx0.bel) hn ha hb hc).mono ?_
  rintro e w2 ⟨x, y, d, e2, rfl, hT, hb2⟩
  have hx2 := hx0.step hb2
  have hf2 : w2.frozen? ⟨w.heap.size + 1, 0, none⟩ = false := (hb2.frozen (p := ⟨w.heap.size + 1, 0, none⟩) (by simp)).trans hf0
  obtain ⟨hRx, hRy, hRd⟩ := hT.R hn
  clear hf0 hx0 hb2
  obtain ⟨⟨r0, zr⟩, ⟨q0, z0⟩, -⟩ := hx2.cells
  by_cases he2 : e2 = 0
  · subst he2
    by_cases hxy : x = y
    · subst hxy
      by_cases hd : 0 ≤ d
      · have hR := Lib.hid (LeT.tru (most := most) x d hT hd)
        have dd : decide (0 ≤ d) = true := by simpa using hd
        clear hd
        go_wp2
        exact bodyPost_ret (results_tab3 rfl _ _ (w.heap.size + 1) (.slice A n cp) rfl (hx2.res _)) rfl ⟨_, n, N, 0, false, 0, rfl, hR.out, hv'.out.below (hx2.bset _ _ (by omega) _), hx2.bset _ _ (by omega) _⟩
      · have dd : decide (0 ≤ d) = false := by simpa using hd
        have hd' := Lib.hid (show d < 0 by omega)
        clear hd
        go_wp2_with fail
        refine (Put_any _ n N notNd most w2 (hv'.out.below hx2.bel) hn notNd_R hm).mono ?_
        rintro e w4 ⟨v4, m4, M4, a4, e4, rfl, hR4, hN4, hb4⟩
        have hR := Lib.hid (LeT.fls x d hT hd'.out m4 M4 a4 e4 hR4)
        have hx4 := hx2.step hb4
        have hf4 : w4.frozen? ⟨w.heap.size + 1, 0, none⟩ = false := (hb4.frozen (p := ⟨w.heap.size + 1, 0, none⟩) zr).trans hf2
        clear r0 zr q0 z0 hf2 hR4
        have hN4' := Lib.hid hN4
        obtain ⟨A4, c4, rfl, _, _, _⟩ := hN4
        have hx5 := hx4.skip (.cells #[.slice A4 m4 c4] 24)
        have hf5 : (w4.alloc (.cells #[.slice A4 m4 c4] 24)).frozen? ⟨w.heap.size + 1, 0, none⟩ = false := (((Below.refl w4.heap.size w4).alloc (Nat.le_refl _) _).frozen (p := ⟨w.heap.size + 1, 0, none⟩) hx4.cells.1.2).trans hf4
        have hc5 : (w4.alloc (.cells #[.slice A4 m4 c4] 24)).cell? ⟨w4.heap.size, 0, none⟩ = some (.slice A4 m4 c4) := by simp
        have hN5 := Lib.hid (hN4'.out.alloc (.cells #[.slice A4 m4 c4] 24))
        obtain ⟨⟨r0, zr⟩, ⟨q0, z0⟩, -⟩ := hx5.cells
        clear hf4 hx4
        generalize hW5 : w4.alloc (.cells #[.slice A4 m4 c4] 24) = w5 at *
        go_wp2
        exact bodyPost_ret (results_tab3 rfl _ _ (w.heap.size + 1) (.slice A4 m4 c4) rfl (hx5.res _)) rfl ⟨_, m4, M4, a4, false, e4, rfl, hR.out, hN5.out.setBox r0 (fun _ _ h => by cases h) _, hx5.bset _ _ (by omega) _⟩
    · have dxy : (x == y) = false := by simpa using hxy
      have hxy' := Lib.hid hxy
      clear hxy
      go_wp2_with fail
      refine (Put_any _ n N (diffNd x y d) most w2 (hv'.out.below hx2.bel) hn (diffNd_R hRx hRy hRd) hm).mono ?_
      rintro e w4 ⟨v4, m4, M4, a4, e4, rfl, hR4, hN4, hb4⟩
      have hR := Lib.hid (LeT.diff x y d hT hxy'.out m4 M4 a4 e4 hR4)
      have hx4 := hx2.step hb4
      have hf4 : w4.frozen? ⟨w.heap.size + 1, 0, none⟩ = false := (hb4.frozen (p := ⟨w.heap.size + 1, 0, none⟩) zr).trans hf2
      clear r0 zr q0 z0 hf2 hR4
      have hN4' := Lib.hid hN4
      obtain ⟨A4, c4, rfl, _, _, _⟩ := hN4
      have hx5 := hx4.skip (.cells #[.slice A4 m4 c4] 24)
      have hf5 : (w4.alloc (.cells #[.slice A4 m4 c4] 24)).frozen? ⟨w.heap.size + 1, 0, none⟩ = false := (((Below.refl w4.heap.size w4).alloc (Nat.le_refl _) _).frozen (p := ⟨w.heap.size + 1, 0, none⟩) hx4.cells.1.2).trans hf4
      have hc5 : (w4.alloc (.cells #[.slice A4 m4 c4] 24)).cell? ⟨w4.heap.size, 0, none⟩ = some (.slice A4 m4 c4) := by simp
      have hN5 := Lib.hid (hN4'.out.alloc (.cells #[.slice A4 m4 c4] 24))
      obtain ⟨⟨r0, zr⟩, ⟨q0, z0⟩, -⟩ := hx5.cells
      clear hf4 hx4
      generalize hW5 : w4.alloc (.cells #[.slice A4 m4 c4] 24) = w5 at *
      go_wp2
      exact bodyPost_ret (results_tab3 rfl _ _ (w.heap.size + 1) (.slice A4 m4 c4) rfl (hx5.res _)) rfl ⟨_, m4, M4, a4, (e4 == 0), e4, rfl, hR.out, hN5.out.setBox r0 (fun _ _ h => by cases h) _, hx5.bset _ _ (by omega) _⟩
  · have d2 : (e2 != 0) = true := by simpa using he2
    have hR := Lib.hid (LeT.err (most := most) x y d e2 hT he2 N)
    clear he2
    go_wp2
    exact bodyPost_ret (results_tab3 rfl _ _ (w.heap.size + 1) (.slice none 0 0) rfl (hx2.res _)) rfl ⟨_, 0, N, 0, false, e2, rfl, hR.out, NdsAt.nil _ _, hx2.bset _ _ (by omega) _⟩
end Go.Proofs.Ytecmoahadckomaa

namespace Go.Proofs.Ytecmoahadckomaa
open Go.RowKit Go.Maps
set_option maxRecDepth 100000

/-- What offset.Add gives. -/
inductive OAddR (n : Nat) (N : Nat → Nd) (id x most : Int) : Nat → (Nat → Nd) → Int → Int → Prop
  | of (b k er : Int) (h : OfT n N id b k er) (he : er ≠ 0) (M : Nat → Nd) : OAddR n N id x most 0 M 0 er
  | over (b k : Int) (h : OfT n N id b k 0) (ho : addOk k x = false) (M : Nat → Nd) : OAddR n N id x most 0 M 0 10
  | put (b k : Int) (h : OfT n N id b k 0) (ho : addOk k x = true) (m : Nat) (M : Nat → Nd) (a er : Int) (hp : OPutR n N b (k + x) most m M a er) : OAddR n N id x most m M a er
def OAddPost (n : Nat) (N : Nat → Nd) (id x most : Int) (w : World) (e : Ending) (w' : World) : Prop :=
  ∃ v' m M at_ er, e = .returned (.tuple #[.agg #[v'], .int .i64 at_, .int .i64 er]) ∧ OAddR n N id x most m M at_ er ∧ NdsAt w' v' m M ∧ Below w.heap.size w w'
/-- The boxes of Add: the table's at w.heap.size, the result's behind it, the summer's at G. -/
structure AB (w : World) (A : Option Addr) (n c G : Nat) (k er : Int) (x : World) : Prop where
  bx : Bx w ((w.heap.size + 1, 0, .slice none 0 0) :: (w.heap.size, 0, .slice A n c) :: []) x
  s : SBox G k er x
  fr : x.frozen? ⟨w.heap.size + 1, 0, none⟩ = false
  hG : w.heap.size + 1 < G
theorem AB.step {w x y : World} {A : Option Addr} {n c G : Nat} {k er : Int} (h : AB w A n c G k er x) (hb : Below x.heap.size x y) : AB w A n c G k er y :=
  ⟨h.bx.step hb, h.s.step hb, (hb.frozen (p := ⟨w.heap.size + 1, 0, none⟩) h.bx.cells.1.2).trans h.fr, h.hG⟩
theorem AB.drew {w x : World} {A : Option Addr} {n c G : Nat} {k er : Int} (h : AB w A n c G k er x) : AB w A n c G k er x.drew := h.step (Below.refl _ _).drew
theorem AB.S {w x : World} {A : Option Addr} {n c G : Nat} {k er : Int} (h : AB w A n c G k er x) : x.cell? ⟨w.heap.size, 0, none⟩ = some (.slice A n c) ∧ x.cell? ⟨G, 0, none⟩ = some (.int .i64 k) ∧ x.cell? ⟨G, 1, none⟩ = some (.int .i64 er) := ⟨h.bx.cells.2.1.1, h.s.n, h.s.e⟩
theorem AB.Sset {w x : World} {A : Option Addr} {n c G : Nat} {k er : Int} (h : AB w A n c G k er x) (u : Value) : (x.setCell ⟨w.heap.size + 1, 0, none⟩ u).cell? ⟨w.heap.size, 0, none⟩ = some (.slice A n c) ∧ (x.setCell ⟨w.heap.size + 1, 0, none⟩ u).cell? ⟨G, 0, none⟩ = some (.int .i64 k) ∧ (x.setCell ⟨w.heap.size + 1, 0, none⟩ u).cell? ⟨G, 1, none⟩ = some (.int .i64 er) := by
  have hG := h.hG
  exact ⟨(World.cell?_setCell_far _ _ _ _ (by show w.heap.size + 1 ≠ w.heap.size; omega)).trans h.S.1, (World.cell?_setCell_far _ _ _ _ (by show w.heap.size + 1 ≠ G; omega)).trans h.S.2.1, (World.cell?_setCell_far _ _ _ _ (by show w.heap.size + 1 ≠ G; omega)).trans h.S.2.2⟩

set_option maxHeartbeats 4000000 in
theorem OAdd_any (v : Value) (n : Nat) (N : Nat → Nd) (id x most : Int) (w : World) (hv : NdsAt w v n N) (hn : n ≤ 1000000) (hid : R64 id) (hx : R64 x) (hm : R64 most) :
    Calls Try.prog 66 #[.agg #[v], .int .i64 id, .int .i64 x, .int .i64 most] w (OAddPost n N id x most w) := by
  have hv' := Lib.hid hv
  obtain ⟨A, cp, rfl, _, _, _⟩ := hv
  have hx0 := bx_two w A n cp 24 24
  have hf0 := frz_two w A n cp 24 24
  go_enter Try.func66, Try.ntmps66
  go_wp2_with fail
  refine (Of_any _ n N id _ (hv'.out.below hx0.bel) hn hid).mono ?_
  rintro e w2 ⟨b, k, e2, rfl, hT, hb2⟩
  have hx2 := hx0.step hb2
  have hf2 : w2.frozen? ⟨w.heap.size + 1, 0, none⟩ = false := (hb2.frozen (p := ⟨w.heap.size + 1, 0, none⟩) (by simp)).trans hf0
  obtain ⟨hRb, hmk, _⟩ := hT.R hn
  have hmk' := Lib.hid hmk
  clear hf0 hx0 hb2 hmk
  have hAB : AB w A n cp w2.heap.size k e2 (w2.alloc (.cells #[.int .i64 k, .int .i64 e2] 75)) :=
    ⟨hx2.skip _, ⟨by simp, by simp, by simp, by simp, by simp⟩, (((Below.refl w2.heap.size w2).alloc (Nat.le_refl _) _).frozen (p := ⟨w.heap.size + 1, 0, none⟩) hx2.cells.1.2).trans hf2, hx2.cells.1.2⟩
  clear hf2
  generalize hW3 : w2.alloc (.cells #[.int .i64 k, .int .i64 e2] 75) = w3 at *
  go_wp2_with fail
  refine (Sadd_any w2.heap.size k e2 x w3 hAB.s (may_R hmk'.out) hx).mono ?_
  rintro e w4 ⟨⟨v4, rfl⟩, hs4, hb4⟩
  have hG := hAB.hG
  have hbw4 : Below w.heap.size w w4 := hAB.bx.bel.trans (hb4.mono (by omega))
  have hsz : w2.heap.size < w4.heap.size := hs4.lt
  have hAB4 : AB w A n cp w2.heap.size (if e2 = 0 then (if addOk k x then k + x else 0) else k) (if e2 = 0 then (if addOk k x then 0 else 10) else e2) w4 :=
    ⟨⟨⟨⟨(hb4.cell (p := ⟨w.heap.size + 1, 0, none⟩) hG).trans hAB.bx.cells.1.1, by omega⟩, ⟨(hb4.cell (p := ⟨w.heap.size, 0, none⟩) (by show w.heap.size < _; omega)).trans hAB.bx.cells.2.1.1, by omega⟩, trivial⟩, hbw4⟩, hs4, (hb4.frozen (p := ⟨w.heap.size + 1, 0, none⟩) hG).trans hAB.fr, hG⟩
  clear hs4 hb4 hAB hW3 hbw4 hx2 hsz
  by_cases he : e2 = 0
  · rw [if_pos he, if_pos he] at hAB4
    subst he
    cases ho : addOk k x with
    | true =>
      rw [ho, if_pos rfl, if_pos rfl] at hAB4
      have hR := fun m M a er => OAddR.put (most := most) b k hT ho m M a er
      have hR' := Lib.hid hR
      have hRk : R64 (k + x) := addOk_R ho
      have ho' := Lib.hid ho
      clear ho hR hT
      obtain ⟨s0, s1, _, _, _⟩ := hAB4.s
      have hPA := OPut_any (.slice A n cp) n N b (k + x) most w4.drew (hv'.out.below hAB4.drew.bx.bel) hn (by unfold R64; omega) hRk hm
      obtain ⟨q0, z0⟩ := hAB4.bx.cells.2.1
      have hAB4' := Lib.hid hAB4
      clear hAB4
      go_wp2
      have hS0 := hAB4'.out.drew.S
      go_region_held3 (fun y => y.cell? ⟨w.heap.size, 0, none⟩ = some (.slice A n cp) ∧ y.cell? ⟨w2.heap.size, 0, none⟩ = some (.int .i64 (k + x)) ∧ y.cell? ⟨w2.heap.size, 1, none⟩ = some (.int .i64 0))
        (first | exact hS0 | exact hS1 | exact hS2 | fail)
        (first | (go_at_call 65; (with_reducible refine Calls.mono hPA ?_); rintro e w5 ⟨v5, m5, M5, a5, e5, rfl, hR5, hN5, hb5⟩; have hAB5 := hAB4'.out.drew.step hb5; have hS1 := hAB5.S; have r5 := hAB5.bx.cells.1.1; have f5 := hAB5.fr; have hN5' := Lib.hid hN5; (obtain ⟨A5, c5, rfl, _, _, _⟩ := hN5); have hS2 := hAB5.Sset (.slice A5 m5 c5)))
      go_wp2
      exact bodyPost_ret (results_tab2 rfl _ _ (w.heap.size + 1) (.slice A5 m5 c5) rfl (hAB5.bx.res _)) rfl ⟨_, m5, M5, a5, e5, rfl, hR'.out _ _ _ _ hR5, hN5'.out.setBox r5 (fun _ _ h => by cases h) _, hAB5.bx.bset _ _ (by omega) _⟩
    | false =>
      rw [ho, if_neg (by decide), if_neg (by decide)] at hAB4
      have hR := Lib.hid (OAddR.over (most := most) b k hT ho N)
      clear ho hT
      obtain ⟨s0, s1, _, _, _⟩ := hAB4.s
      obtain ⟨r0, zr⟩ := hAB4.bx.cells.1
      have f0 := hAB4.fr
      have hAB4' := Lib.hid hAB4
      clear hAB4
      go_wp2
      have hS0 := hAB4'.out.drew.S
      have hS1 := hAB4'.out.drew.Sset (.slice none 0 0)
      go_region_held3 (fun y => y.cell? ⟨w.heap.size, 0, none⟩ = some (.slice A n cp) ∧ y.cell? ⟨w2.heap.size, 0, none⟩ = some (.int .i64 0) ∧ y.cell? ⟨w2.heap.size, 1, none⟩ = some (.int .i64 10))
        (first | exact hS0 | exact hS1 | fail) (first | fail)
      go_wp2
      exact bodyPost_ret (results_tab2 rfl _ _ (w.heap.size + 1) (.slice none 0 0) rfl (hAB4'.out.drew.bx.res _)) rfl ⟨_, 0, N, 0, 10, rfl, hR.out, NdsAt.nil _ _, hAB4'.out.drew.bx.bset _ _ (by omega) _⟩
  · rw [if_neg he, if_neg he] at hAB4
    have hR := Lib.hid (OAddR.of (x := x) (most := most) b k e2 hT he N)
    have d2 : (e2 != 0) = true := by simpa using he
    clear he hT
    obtain ⟨s0, s1, _, _, _⟩ := hAB4.s
    obtain ⟨r0, zr⟩ := hAB4.bx.cells.1
    have f0 := hAB4.fr
    have hAB4' := Lib.hid hAB4
    clear hAB4
    go_wp2
    have hS0 := hAB4'.out.drew.S
    have hS1 := hAB4'.out.drew.Sset (.slice none 0 0)
    go_region_held3 (fun y => y.cell? ⟨w.heap.size, 0, none⟩ = some (.slice A n cp) ∧ y.cell? ⟨w2.heap.size, 0, none⟩ = some (.int .i64 k) ∧ y.cell? ⟨w2.heap.size, 1, none⟩ = some (.int .i64 e2))
      (first | exact hS0 | exact hS1 | fail) (first | fail)
    go_wp2
    exact bodyPost_ret (results_tab2 rfl _ _ (w.heap.size + 1) (.slice none 0 0) rfl (hAB4'.out.drew.bx.res _)) rfl ⟨_, 0, N, 0, e2, rfl, hR.out, NdsAt.nil _ _, hAB4'.out.drew.bx.bset _ _ (by omega) _⟩

theorem RAdd_any (a b : Int) (w : World) (ha : R64 a) (hb : R64 b) :
    Calls Try.prog 30 #[.int .i64 a, .int .i64 b] w fun e w' => e = .returned (numV (addOk a b) (a + b)) ∧ w = w' := by
  have hV := addOk_wrap a b
  have hv2 := fun h => @addOk_val a b h
  cases h1 : mayB a with
  | false =>
    have hno : Hid (addOk a b = false) := by unfold Hid addOk; rw [h1]; rfl
    clear hV hv2
    go_enter Try.func30, Try.ntmps30
    go_wp2_with fail
    refine (RMay_any a w ha.1 ha.2).mono ?_
    rintro e w2 ⟨rfl, rfl⟩
    rw [h1]
    clear h1
    go_wp2
    go_ret2
    exact ⟨by rw [numV_no hno.out]; rfl, rfl⟩
  | true =>
    cases h2 : mayB b with
    | false =>
      have hno : Hid (addOk a b = false) := by unfold Hid addOk; rw [h1, h2]; rfl
      have h1' := Lib.hid h1
      have h2' := Lib.hid h2
      clear hV hv2 h1 h2
      go_enter Try.func30, Try.ntmps30
      go_wp2_with fail
      refine (RMay_any a w ha.1 ha.2).mono ?_
      rintro e w2 ⟨rfl, rfl⟩
      rw [h1'.out]
      go_wp2_with fail
      refine (RMay_any b w hb.1 hb.2).mono ?_
      rintro e w2 ⟨rfl, rfl⟩
      rw [h2'.out]
      go_wp2
      go_ret2
      exact ⟨by rw [numV_no hno.out]; rfl, rfl⟩
    | true =>
      have hR := Lib.hid (wrap64_R (a + b))
      have h1' := Lib.hid h1
      have h2' := Lib.hid h2
      rw [h1, h2] at hV
      simp only [Bool.true_and] at hV
      cases h3 : addOk a b with
      | true =>
        rw [h3] at hV
        have hV' := Lib.hid hV
        have hv3 := Lib.hid (hv2 h3)
        have h3' := Lib.hid h3
        clear hV hv2 h1 h2 h3
        go_enter Try.func30, Try.ntmps30
        go_wp2_with fail
        refine (RMay_any a w ha.1 ha.2).mono ?_
        rintro e w2 ⟨rfl, rfl⟩
        rw [h1'.out]
        go_wp2_with fail
        refine (RMay_any b w hb.1 hb.2).mono ?_
        rintro e w2 ⟨rfl, rfl⟩
        rw [h2'.out]
        go_wp2_with fail
        refine (RMay_any (wrap64 (a + b)) w hR.out.1 hR.out.2).mono ?_
        rintro e w2 ⟨rfl, rfl⟩
        rw [hV'.out]
        go_wp2
        go_ret2
        exact ⟨by rw [numV_yes rfl]; exact congrArg (fun z => Ending.returned (.tuple #[.int .i64 z, .int .i64 0])) hv3.out, rfl⟩
      | false =>
        rw [h3] at hV
        have hV' := Lib.hid hV
        have h3' := Lib.hid h3
        clear hV hv2 h1 h2 h3
        go_enter Try.func30, Try.ntmps30
        go_wp2_with fail
        refine (RMay_any a w ha.1 ha.2).mono ?_
        rintro e w2 ⟨rfl, rfl⟩
        rw [h1'.out]
        go_wp2_with fail
        refine (RMay_any b w hb.1 hb.2).mono ?_
        rintro e w2 ⟨rfl, rfl⟩
        rw [h2'.out]
        go_wp2_with fail
        refine (RMay_any (wrap64 (a + b)) w hR.out.1 hR.out.2).mono ?_
        rintro e w2 ⟨rfl, rfl⟩
        rw [hV'.out]
        go_wp2
        go_ret2
        exact ⟨rfl, rfl⟩
end Go.Proofs.Ytecmoahadckomaa

namespace Go.Proofs.Ytecmoahadckomaa
open Go.RowKit Go.Maps
set_option maxRecDepth 100000

def R11Post (n : Nat) (N : Nat → Nd) (id : Int) (w : World) (x : Ending) (w' : World) : Prop :=
  ∃ b k er, x = .returned (.tuple #[.int .i64 b, .int .i64 k, .int .i64 er]) ∧ OfT n N id b k er ∧ Below w.heap.size w w'
set_option maxHeartbeats 4000000 in
theorem R11Of_any (v : Value) (n : Nat) (N : Nat → Nd) (id : Int) (w : World) (hv : NdsAt w v n N) (hn : n ≤ 1000000) (hid : R64 id) :
    Calls Try.prog 16 #[.agg #[v], .int .i64 id] w (R11Post n N id w) := by
  have hv' := Lib.hid hv
  obtain ⟨A, c, rfl, -, -, hnd⟩ := hv
  have hx0 := Lib.hid ((Bx.nil w).one (.slice A n c) 24)
  have hCk := Lib.hid (RCheck_any (.slice A n c) n N _ (hv'.out.below hx0.out.bel) hn)
  obtain ⟨⟨q0, qz⟩, -⟩ := hx0.out.cells
  go_enter Try.func16, Try.ntmps16
  go_wp2_with fail
  refine hCk.out.mono ?_
  rintro e w1 ⟨rfl, hb1⟩
  have hx1 := Lib.hid (hx0.out.step hb1)
  clear hb1 hCk q0 qz hx0
  obtain ⟨⟨q0, qz⟩, -⟩ := hx1.out.cells
  rcases Classical.em (CheckP n N) with hch | hch
  case inr =>
    have hck : (checkT n N != 0) = true := by rw [check_not hch]; rfl
    have hR := Lib.hid (OfT.arg (n := n) (N := N) (id := id) (fun h => hch h.1))
    clear hch
    go_wp2_with fail
    refine bodyPost_ret (results_tmp3 rfl _ _ _) rfl ⟨0, 0, 2, rfl, hR.out, hx1.out.bel⟩
  have hck : (checkT n N != 0) = false := by rw [check_yes hch]; rfl
  have hch' := Lib.hid hch
  have h2 := hch.two
  clear hch
  by_cases h0 : id < 0
  · have d1 : decide (id < 0) = true := decide_eq_true h0
    have hR := Lib.hid (OfT.arg (n := n) (N := N) (id := id) (fun h => by omega))
    clear h0
    go_wp2_with fail
    refine bodyPost_ret (results_tmp3 rfl _ _ _) rfl ⟨0, 0, 2, rfl, hR.out, hx1.out.bel⟩
  have d1 : decide (id < 0) = false := decide_eq_false h0
  by_cases h1 : (n : Int) ≤ id
  · have d2 : decide ((n : Int) ≤ id) = true := decide_eq_true h1
    have hR := Lib.hid (OfT.arg (n := n) (N := N) (id := id) (fun h => by omega))
    clear h0 h1
    go_wp2_with fail
    refine bodyPost_ret (results_tmp3 rfl _ _ _) rfl ⟨0, 0, 2, rfl, hR.out, hx1.out.bel⟩
  have d2 : decide ((n : Int) ≤ id) = false := decide_eq_false h1
  obtain ⟨i0, rfl⟩ : ∃ i0 : Nat, id = i0 := ⟨id.toNat, by omega⟩
  have hi0 : i0 < n := by omega
  obtain ⟨tb, to_, rfl, htb, hnd⟩ := hnd (by omega)
  have hnd' := Lib.hid hnd
  have n5 := (hx1.out.bel.cell (p := ⟨tb, to_ + i0 * 8 + 5, none⟩) htb).trans (hnd i0 hi0).2.2.2.2.2.1
  have z0 : (0 : Int) ≤ (i0 : Int) := by omega
  have z1 : (i0 : Int) < (n : Int) := by omega
  have hnn : ¬ (n ≤ i0) := by omega
  clear hnd h0 h1
  by_cases hs : (N i0).sort = 1
  case neg =>
    have d3 : ((N i0).sort != 1) = true := by simpa using hs
    have hR := Lib.hid (OfT.sort hch'.out i0 hi0 rfl hs)
    clear hs
    go_wp2_with fail
    refine bodyPost_ret (results_tmp3 rfl _ _ _) rfl ⟨0, 0, 33, rfl, hR.out, hx1.out.bel⟩
  have d3 : ((N i0).sort != 1) = false := by rw [hs]; rfl
  have hs' := Lib.hid hs
  clear hs
  go_wp2_with fail
  clear q0 qz n5 d1 d2 d3 hck z0 z1
  go_loopw [1, 7] (fun a b wr => ∃ (i : Nat) (k : Int), i < n ∧ a = .int .i64 i ∧ b = .int .i64 k ∧ R64 k ∧ Hid (∀ r, OfR N i k r → OfR N i0 0 r) ∧ Hid (Bx w [(w.heap.size, 0, .slice (some ⟨tb, to_, none⟩) n c)] wr)) (fun a _ _ => (intOf a).toNat)
  case atStart => exact ⟨i0, 0, hi0, rfl, rfl, R64_0, fun _ h => h, hx1.out⟩
  case round =>
  clear hx1
  obtain ⟨i, k, hi, rfl, rfl, hk, hof, hx⟩ := hrel
  obtain ⟨⟨q0, qz⟩, -⟩ := hx.out.cells
  have nd := fun j => hx.out.bel.cell (p := ⟨tb, j, none⟩) htb
  obtain ⟨n0, n1, n2, n3, n4, n5, n6, n7⟩ := (hnd'.out i hi).keep (w' := wr) nd
  have z0 : (0 : Int) ≤ (i : Int) := by omega
  have z1 : (i : Int) < (n : Int) := by omega
  have hNm : Hid (R64 (N i).num) := (hv'.out.ranges i hi).num
  clear nd n1 n3 n4 n5 n6
  by_cases h11 : (N i).op = 11
  · have e11 : ((N i).op == 11) = true := by rw [h11]; rfl
    have e10 : ((N i).op == 10) = false := by rw [h11]; rfl
    obtain ⟨_, ha, _⟩ := hch'.out.add hi h11
    obtain ⟨a, haa⟩ : ∃ a : Nat, (N i).a0 = a := ⟨(N i).a0.toNat, by omega⟩
    have hav : (N i).a0.toNat = a := by omega
    rw [haa] at n2 ha
    cases hok : addOk k (N i).num with
    | true =>
      have hnx : Hid (∀ r, OfR N a (k + (N i).num) r → OfR N i0 0 r) := fun r h => hof.out r (.add h11 hok (by rw [hav]; exact h))
      have hkR := addOk_R hok
      have hAd := Lib.hid (RAdd_any k (N i).num wr hk hNm.out)
      rw [hok, numV_yes rfl] at hAd
      clear h11 hok haa hav
      go_wp2_with fail
      refine hAd.out.mono ?_
      rintro e w3 ⟨rfl, rfl⟩
      go_wp2_with fail
      go_roundw
      case rel => exact ⟨a, k + (N i).num, by omega, rfl, rfl, hkR, hnx, hx.out⟩
      case measure => simp [intOf]; omega
    | false =>
      have hR := Lib.hid (OfT.over hch'.out i0 hi0 rfl hs'.out (hof.out _ (.addNo h11 hok)))
      have hAd := Lib.hid (RAdd_any k (N i).num wr hk hNm.out)
      rw [hok, numV_no rfl] at hAd
      clear h11 hok haa hav
      go_wp2_with fail
      refine hAd.out.mono ?_
      rintro e w3 ⟨rfl, rfl⟩
      go_wp2_with fail
      refine bodyPost_ret (results_tmp3 rfl _ _ _) rfl ⟨0, 0, 10, rfl, hR.out, hx.out.bel⟩
  have e11 : ((N i).op == 11) = false := by simpa using h11
  by_cases h10 : (N i).op = 10
  · have e10 : ((N i).op == 10) = true := by rw [h10]; rfl
    cases hok : addOk k (N i).num with
    | true =>
      have hR := Lib.hid (OfT.ok hch'.out i0 hi0 rfl hs'.out 1 (k + (N i).num) (hof.out _ (.num h10 hok)))
      have hAd := Lib.hid (RAdd_any k (N i).num wr hk hNm.out)
      rw [hok, numV_yes rfl] at hAd
      clear h11 h10 hok
      go_wp2_with fail
      refine hAd.out.mono ?_
      rintro e w3 ⟨rfl, rfl⟩
      go_wp2_with fail
      refine bodyPost_ret (results_tmp3 rfl _ _ _) rfl ⟨1, k + (N i).num, 0, rfl, hR.out, hx.out.bel⟩
    | false =>
      have hR := Lib.hid (OfT.over hch'.out i0 hi0 rfl hs'.out (hof.out _ (.numNo h10 hok)))
      have hAd := Lib.hid (RAdd_any k (N i).num wr hk hNm.out)
      rw [hok, numV_no rfl] at hAd
      clear h11 h10 hok
      go_wp2_with fail
      refine hAd.out.mono ?_
      rintro e w3 ⟨rfl, rfl⟩
      go_wp2_with fail
      refine bodyPost_ret (results_tmp3 rfl _ _ _) rfl ⟨0, 0, 10, rfl, hR.out, hx.out.bel⟩
  have e10 : ((N i).op == 10) = false := by simpa using h10
  have hR := Lib.hid (OfT.ok hch'.out i0 hi0 rfl hs'.out i k (hof.out _ (.base h11 h10)))
  clear h11 h10
  go_wp2_with fail
  refine bodyPost_ret (results_tmp3 rfl _ _ _) rfl ⟨i, k, 0, rfl, hR.out, hx.out.bel⟩
end Go.Proofs.Ytecmoahadckomaa
