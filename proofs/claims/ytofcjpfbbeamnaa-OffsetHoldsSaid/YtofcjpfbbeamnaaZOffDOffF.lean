/- offset.Put, offset.Le. -/
import Derived.Test.YtofcjpfbbeamnaaZOffBOffC
import Derived.Test.YtofcjpfbbeamnaaZTermETermF
import Derived.Test.YtofcjpfbbeamnaaZGreat5TermD
import Derived.Test.YtofcjpfbbeamnaaZSetBox
import Derived.Test.YtofcjpfbbeamnaaZOffE
namespace Go.Proofs.Ytofcjpfbbeamnaa
open Go.RowKit Go.Maps
set_option maxRecDepth 100000

def numNd (k : Int) : Nd := ⟨10, 0, 0, 0, 0, 1, 0, k⟩
def addNd (b k : Int) : Nd := ⟨11, 1, b, 0, 0, 1, 0, k⟩
def notNd : Nd := ⟨1, 1, 0, 0, 0, 0, 0, 0⟩
def diffNd (x y d : Int) : Nd := ⟨12, 2, x, y, 0, 0, 0, d⟩
theorem numNd_R {k : Int} (h : R64 k) : NdR (numNd k) := ⟨⟨by show -128 ≤ (10 : Int); decide, by show (10 : Int) ≤ 127; decide⟩, ⟨by show -128 ≤ (0 : Int); decide, by show (0 : Int) ≤ 127; decide⟩, R64_0, R64_0, R64_0, ⟨by show -9223372036854775808 ≤ (1 : Int); decide, by show (1 : Int) ≤ 9223372036854775807; decide⟩, R64_0, h⟩
theorem addNd_R {b k : Int} (hb : R64 b) (h : R64 k) : NdR (addNd b k) := ⟨⟨by show -128 ≤ (11 : Int); decide, by show (11 : Int) ≤ 127; decide⟩, ⟨by show -128 ≤ (1 : Int); decide, by show (1 : Int) ≤ 127; decide⟩, hb, R64_0, R64_0, ⟨by show -9223372036854775808 ≤ (1 : Int); decide, by show (1 : Int) ≤ 9223372036854775807; decide⟩, R64_0, h⟩
theorem notNd_R : NdR notNd := ⟨⟨by decide, by decide⟩, ⟨by decide, by decide⟩, R64_0, R64_0, R64_0, R64_0, R64_0, R64_0⟩
theorem diffNd_R {x y d : Int} (hx : R64 x) (hy : R64 y) (h : R64 d) : NdR (diffNd x y d) := ⟨⟨by show -128 ≤ (12 : Int); decide, by show (12 : Int) ≤ 127; decide⟩, ⟨by show -128 ≤ (2 : Int); decide, by show (2 : Int) ≤ 127; decide⟩, hx, hy, R64_0, R64_0, R64_0, h⟩

/-- What offset.Put gives. -/
inductive OPutR (n : Nat) (N : Nat → Nd) (base k most : Int) : Nat → (Nat → Nd) → Int → Int → Prop
  | of (b m er : Int) (h : OfT n N base b m er) (he : er ≠ 0) (M : Nat → Nd) : OPutR n N base k most 0 M 0 er
  | own (b m : Int) (h : OfT n N base b m 0) (hb : b ≠ base) (M : Nat → Nd) : OPutR n N base k most 0 M 0 2
  | over (m : Int) (h : OfT n N base base m 0) (hk : mayB k = false) (M : Nat → Nd) : OPutR n N base k most 0 M 0 10
  | zero (m : Int) (h : OfT n N base base m 0) (hk : mayB k = true) (hz : base = 1) (m' : Nat) (M : Nat → Nd) (a er : Int) (hp : PutR n N (numNd k) most m' M a er) : OPutR n N base k most m' M a er
  | same (m : Int) (h : OfT n N base base m 0) (hk : mayB k = true) (hz : base ≠ 1) (h0 : k = 0) : OPutR n N base k most n N base 0
  | add (m : Int) (h : OfT n N base base m 0) (hk : mayB k = true) (hz : base ≠ 1) (h0 : k ≠ 0) (m' : Nat) (M : Nat → Nd) (a er : Int) (hp : PutR n N (addNd base k) most m' M a er) : OPutR n N base k most m' M a er
def OPutPost (n : Nat) (N : Nat → Nd) (base k most : Int) (w : World) (x : Ending) (w' : World) : Prop :=
  ∃ v' m M at_ er, x = .returned (.tuple #[.agg #[v'], .int .i64 at_, .int .i64 er]) ∧ OPutR n N base k most m M at_ er ∧ NdsAt w' v' m M ∧ Below w.heap.size w w'
/-- The boxes of Put: the table, the result. -/
theorem Bx.res {w x : World} {K : List (Nat × Nat × Value)} {g : Nat} {v : Value} (h : Bx w ((g, 0, v) :: K) x) (u : Value) : (x.setCell ⟨g, 0, none⟩ u).cell? ⟨g, 0, none⟩ = some u := World.cell?_setCell_same' _ _ _ (by rw [h.cells.1.1]; rfl)
theorem Bx.bset {w x : World} {K : List (Nat × Nat × Value)} (h : Bx w K x) (g o : Nat) (hg : w.heap.size ≤ g) (u : Value) : Below w.heap.size w (x.setCell ⟨g, o, none⟩ u) := h.bel.setCell hg _
theorem bx_two (w : World) (A : Option Addr) (n c : Nat) (t t' : TypeId) : Bx w ((w.heap.size + 1, 0, .slice none 0 0) :: (w.heap.size, 0, .slice A n c) :: []) ((w.alloc (.cells #[.slice A n c] t)).alloc (.cells #[.slice none 0 0] t')) := by
  have h := ((Bx.nil w).one (.slice A n c) t).one (.slice none 0 0) t'
  rwa [World.size_alloc] at h
theorem frz_two (w : World) (A : Option Addr) (n c : Nat) (t t' : TypeId) : ((w.alloc (.cells #[.slice A n c] t)).alloc (.cells #[.slice none 0 0] t')).frozen? ⟨w.heap.size + 1, 0, none⟩ = false := by
  have : w.heap.size + 1 = (w.alloc (.cells #[.slice A n c] t)).heap.size := by simp
  rw [this]; simp

set_option maxHeartbeats 4000000 in
theorem OPut_any (v : Value) (n : Nat) (N : Nat → Nd) (base k most : Int) (w : World) (hv : NdsAt w v n N) (hn : n ≤ 1000000) (hb : R64 base) (hk : R64 k) (hm : R64 most) :
    Calls Try.prog 62 #[.agg #[v], .int .i64 base, .int .i64 k, .int .i64 most] w (OPutPost n N base k most w) := by
  have hv' := Lib.hid hv
  obtain ⟨A, cp, rfl, _, _, _⟩ := hv
  have hx0 := bx_two w A n cp 24 24
  have hf0 := frz_two w A n cp 24 24
  go_enter Try.func62, Try.ntmps62
  go_wp2_with fail
  refine (Of_any _ n N base _ (hv'.out.below hx0.bel) hn hb).mono ?_
  rintro e w2 ⟨x, m, e2, rfl, hT1, hb2⟩
  have hx2 := hx0.step hb2
  have hf2 : w2.frozen? ⟨w.heap.size + 1, 0, none⟩ = false := (hb2.frozen (p := ⟨w.heap.size + 1, 0, none⟩) (by simp)).trans hf0
  clear hf0 hx0 hb2
  obtain ⟨⟨r0, zr⟩, ⟨q0, z0⟩, -⟩ := hx2.cells
  by_cases he2 : e2 = 0
  · subst he2
    by_cases hxb : x = base
    · subst hxb
      cases hmy : mayB k with
      | true =>
        have hmy' := Lib.hid hmy
        by_cases hz : x = 1
        · subst hz
          go_wp2_with fail
          refine (May_any k w2 hk.1 hk.2).mono ?_
          rintro e w3 ⟨rfl, rfl⟩
          rw [hmy'.out]
          clear hmy
          go_wp2_with fail
          refine (Put_any _ n N (numNd k) most w2 (hv'.out.below hx2.bel) hn (numNd_R hk) hm).mono ?_
          rintro e w4 ⟨v4, m4, M4, a4, e4, rfl, hR4, hN4, hb4⟩
          have hR := Lib.hid (OPutR.zero m hT1 hmy'.out rfl m4 M4 a4 e4 hR4)
          have hx4 := hx2.step hb4
          have hf4 : w4.frozen? ⟨w.heap.size + 1, 0, none⟩ = false := (hb4.frozen (p := ⟨w.heap.size + 1, 0, none⟩) zr).trans hf2
          clear r0 zr q0 z0 hf2 hR4
          obtain ⟨⟨r0, zr⟩, ⟨q0, z0⟩, -⟩ := hx4.cells
          have hN4' := Lib.hid hN4
          obtain ⟨A4, c4, rfl, _, _, _⟩ := hN4
          go_wp2
          exact bodyPost_ret (results_tab2 rfl _ _ (w.heap.size + 1) (.slice A4 m4 c4) rfl (hx4.res _)) rfl ⟨_, m4, M4, a4, e4, rfl, hR.out, hN4'.out.setBox r0 (fun _ _ h => by cases h) _, hx4.bset _ _ (by omega) _⟩
        · have dz : (x == 1) = false := by simpa using hz
          by_cases h0 : k = 0
          · subst h0
            have hR := Lib.hid (OPutR.same (most := most) m hT1 hmy hz rfl)
            clear hmy hz
            go_wp2_with fail
            refine (May_any 0 w2 (by decide) (by decide)).mono ?_
            rintro e w3 ⟨rfl, rfl⟩
            rw [hmy'.out]
            go_wp2
            exact bodyPost_ret (results_tab2 rfl _ _ (w.heap.size + 1) (.slice A n cp) rfl (hx2.res _)) rfl ⟨_, n, N, x, 0, rfl, hR.out, hv'.out.below (hx2.bset _ _ (by omega) _), hx2.bset _ _ (by omega) _⟩
          · have d0 : (k == 0) = false := by simpa using h0
            have h0' := Lib.hid h0
            have hz' := Lib.hid hz
            clear hmy hz h0
            go_wp2_with fail
            refine (May_any k w2 hk.1 hk.2).mono ?_
            rintro e w3 ⟨rfl, rfl⟩
            rw [hmy'.out]
            go_wp2_with fail
            refine (Put_any _ n N (addNd x k) most w2 (hv'.out.below hx2.bel) hn (addNd_R hb hk) hm).mono ?_
            rintro e w4 ⟨v4, m4, M4, a4, e4, rfl, hR4, hN4, hb4⟩
            have hR := Lib.hid (OPutR.add m hT1 hmy'.out hz'.out h0'.out m4 M4 a4 e4 hR4)
            have hx4 := hx2.step hb4
            have hf4 : w4.frozen? ⟨w.heap.size + 1, 0, none⟩ = false := (hb4.frozen (p := ⟨w.heap.size + 1, 0, none⟩) zr).trans hf2
            clear r0 zr q0 z0 hf2 hR4
            obtain ⟨⟨r0, zr⟩, ⟨q0, z0⟩, -⟩ := hx4.cells
            have hN4' := Lib.hid hN4
            obtain ⟨A4, c4, rfl, _, _, _⟩ := hN4
            go_wp2
            exact bodyPost_ret (results_tab2 rfl _ _ (w.heap.size + 1) (.slice A4 m4 c4) rfl (hx4.res _)) rfl ⟨_, m4, M4, a4, e4, rfl, hR.out, hN4'.out.setBox r0 (fun _ _ h => by cases h) _, hx4.bset _ _ (by omega) _⟩
      | false =>
        have hR := Lib.hid (OPutR.over (most := most) m hT1 hmy N)
        have hmy' := Lib.hid hmy
        clear hmy
        go_wp2_with fail
        refine (May_any k w2 hk.1 hk.2).mono ?_
        rintro e w3 ⟨rfl, rfl⟩
        rw [hmy'.out]
        go_wp2
        exact bodyPost_ret (results_tab2 rfl _ _ (w.heap.size + 1) (.slice none 0 0) rfl (hx2.res _)) rfl ⟨_, 0, N, 0, 10, rfl, hR.out, NdsAt.nil _ _, hx2.bset _ _ (by omega) _⟩
    · have dx : (x != base) = true := by simpa using hxb
      have hR := Lib.hid (OPutR.own (k := k) (most := most) x m hT1 hxb N)
      clear hxb
      go_wp2
      exact bodyPost_ret (results_tab2 rfl _ _ (w.heap.size + 1) (.slice none 0 0) rfl (hx2.res _)) rfl ⟨_, 0, N, 0, 2, rfl, hR.out, NdsAt.nil _ _, hx2.bset _ _ (by omega) _⟩
  · have d2 : (e2 != 0) = true := by simpa using he2
    have hR := Lib.hid (OPutR.of (k := k) (most := most) x m e2 hT1 he2 N)
    clear he2
    go_wp2
    exact bodyPost_ret (results_tab2 rfl _ _ (w.heap.size + 1) (.slice none 0 0) rfl (hx2.res _)) rfl ⟨_, 0, N, 0, e2, rfl, hR.out, NdsAt.nil _ _, hx2.bset _ _ (by omega) _⟩

/-- What Le gives. -/
inductive LeT (n : Nat) (N : Nat → Nd) (a b c most : Int) : Nat → (Nat → Nd) → Int → Bool → Int → Prop
  | err (x y d er : Int) (h : DiffT n N a b c x y d er) (he : er ≠ 0) (M : Nat → Nd) : LeT n N a b c most 0 M 0 false er
  | tru (x d : Int) (h : DiffT n N a b c x x d 0) (hd : 0 ≤ d) : LeT n N a b c most n N 0 false 0
  | fls (x d : Int) (h : DiffT n N a b c x x d 0) (hd : d < 0) (m : Nat) (M : Nat → Nd) (id er : Int) (hp : PutR n N notNd most m M id er) : LeT n N a b c most m M id false er
  | diff (x y d : Int) (h : DiffT n N a b c x y d 0) (hxy : x ≠ y) (m : Nat) (M : Nat → Nd) (id er : Int) (hp : PutR n N (diffNd x y d) most m M id er) : LeT n N a b c most m M id (er == 0) er
def LePost (n : Nat) (N : Nat → Nd) (a b c most : Int) (w : World) (x : Ending) (w' : World) : Prop :=
  ∃ v' m M id is er, x = .returned (.tuple #[.agg #[v'], .int .i64 id, .bool is, .int .i64 er]) ∧ LeT n N a b c most m M id is er ∧ NdsAt w' v' m M ∧ Below w.heap.size w w'
theorem results_tab3 {fn : Func} {p u x y : Tmp} (h : fn.results = #[.cell p 24, .tmp u, .tmp x, .tmp y]) (tmps : Array Value) (w : World) (g : Nat) (v : Value)
    (hp : tmps.getD p undef = .pointer (some ⟨g, 0, none⟩)) (hc : w.cell? ⟨g, 0, none⟩ = some v) : (results fn tmps).run Try.prog w = .ok (.tuple #[.agg #[v], tmps.getD u undef, tmps.getD x undef, tmps.getD y undef]) w := by
  have hp' : tmps[p]?.getD undef = .pointer (some ⟨g, 0, none⟩) := by simpa using hp
  simp [results, h, hp', asAddr, run_loadTab w g v hc, Result.andThen]
theorem DiffT.R {n : Nat} {N : Nat → Nd} {a b c x y d er : Int} (h : DiffT n N a b c x y d er) (hn : n ≤ 1000000) : R64 x ∧ R64 y ∧ R64 d := by
  cases h with
  | e1 => exact ⟨R64_0, R64_0, R64_0⟩
  | e2 => exact ⟨R64_0, R64_0, R64_0⟩
  | over => exact ⟨R64_0, R64_0, R64_0⟩
  | ok x' m h y' k h' h1 h2 =>
    obtain ⟨hx, _⟩ := h.R hn
    obtain ⟨hy, _⟩ := h'.R hn
    unfold addOk at h2
    simp only [Bool.and_eq_true] at h2
    exact ⟨by unfold R64; omega, by unfold R64; omega, may_R h2.2⟩

set_option maxHeartbeats 4000000 in
theorem Le_any (v : Value) (n : Nat) (N : Nat → Nd) (a b c most : Int) (w : World) (hv : NdsAt w v n N) (hn : n ≤ 1000000) (ha : R64 a) (hb : R64 b) (hc : R64 c) (hm : R64 most) :
    Calls Try.prog 27 #[.agg #[v], .int .i64 a, .int .i64 b, .int .i64 c, .int .i64 most] w (LePost n N a b c most w) := by
  have hv' := Lib.hid hv
  obtain ⟨A, cp, rfl, _, _, _⟩ := hv
  have hx0 := bx_two w A n cp 24 24
  have hf0 := frz_two w A n cp 24 24
  go_enter Try.func27, Try.ntmps27
  go_wp2_with fail
  refine (Diff_any _ n N a b c _ (hv'.out.below hx0.bel) hn ha hb hc).mono ?_
  rintro e w2 ⟨x, y, d, e2, rfl, hT, hb2⟩
  have hx2 := hx0.step hb2
  have hf2 : w2.frozen? ⟨w.heap.size + 1, 0, none⟩ = false := (hb2.frozen (p := ⟨w.heap.size + 1, 0, none⟩) (by simp)).trans hf0
  obtain ⟨hRx, hRy, hRd⟩ := hT.R hn
  clear hf0 hx0 hb2
  obtain ⟨⟨r0, zr⟩, ⟨q0, z0⟩, -⟩ := hx2.cells
  by_cases he2 : e2 = 0
  · subst he2
    by_cases hxy : x = y
    · subst hxy
      by_cases hd : 0 ≤ d
      · have hR := Lib.hid (LeT.tru (most := most) x d hT hd)
        have dd : decide (0 ≤ d) = true := by simpa using hd
        clear hd
        go_wp2
        exact bodyPost_ret (results_tab3 rfl _ _ (w.heap.size + 1) (.slice A n cp) rfl (hx2.res _)) rfl ⟨_, n, N, 0, false, 0, rfl, hR.out, hv'.out.below (hx2.bset _ _ (by omega) _), hx2.bset _ _ (by omega) _⟩
      · have dd : decide (0 ≤ d) = false := by simpa using hd
        have hd' := Lib.hid (show d < 0 by omega)
        clear hd
        go_wp2_with fail
        refine (Put_any _ n N notNd most w2 (hv'.out.below hx2.bel) hn notNd_R hm).mono ?_
        rintro e w4 ⟨v4, m4, M4, a4, e4, rfl, hR4, hN4, hb4⟩
        have hR := Lib.hid (LeT.fls x d hT hd'.out m4 M4 a4 e4 hR4)
        have hx4 := hx2.step hb4
        have hf4 : w4.frozen? ⟨w.heap.size + 1, 0, none⟩ = false := (hb4.frozen (p := ⟨w.heap.size + 1, 0, none⟩) zr).trans hf2
        clear r0 zr q0 z0 hf2 hR4
        have hN4' := Lib.hid hN4
        obtain ⟨A4, c4, rfl, _, _, _⟩ := hN4
        have hx5 := hx4.skip (.cells #[.slice A4 m4 c4] 24)
        have hf5 : (w4.alloc (.cells #[.slice A4 m4 c4] 24)).frozen? ⟨w.heap.size + 1, 0, none⟩ = false := (((Below.refl w4.heap.size w4).alloc (Nat.le_refl _) _).frozen (p := ⟨w.heap.size + 1, 0, none⟩) hx4.cells.1.2).trans hf4
        have hc5 : (w4.alloc (.cells #[.slice A4 m4 c4] 24)).cell? ⟨w4.heap.size, 0, none⟩ = some (.slice A4 m4 c4) := by simp
        have hN5 := Lib.hid (hN4'.out.alloc (.cells #[.slice A4 m4 c4] 24))
        obtain ⟨⟨r0, zr⟩, ⟨q0, z0⟩, -⟩ := hx5.cells
        clear hf4 hx4
        generalize hW5 : w4.alloc (.cells #[.slice A4 m4 c4] 24) = w5 at *
        go_wp2
        exact bodyPost_ret (results_tab3 rfl _ _ (w.heap.size + 1) (.slice A4 m4 c4) rfl (hx5.res _)) rfl ⟨_, m4, M4, a4, false, e4, rfl, hR.out, hN5.out.setBox r0 (fun _ _ h => by cases h) _, hx5.bset _ _ (by omega) _⟩
    · have dxy : (x == y) = false := by simpa using hxy
      have hxy' := Lib.hid hxy
      clear hxy
      go_wp2_with fail
      refine (Put_any _ n N (diffNd x y d) most w2 (hv'.out.below hx2.bel) hn (diffNd_R hRx hRy hRd) hm).mono ?_
      rintro e w4 ⟨v4, m4, M4, a4, e4, rfl, hR4, hN4, hb4⟩
      have hR := Lib.hid (LeT.diff x y d hT hxy'.out m4 M4 a4 e4 hR4)
      have hx4 := hx2.step hb4
      have hf4 : w4.frozen? ⟨w.heap.size + 1, 0, none⟩ = false := (hb4.frozen (p := ⟨w.heap.size + 1, 0, none⟩) zr).trans hf2
      clear r0 zr q0 z0 hf2 hR4
      have hN4' := Lib.hid hN4
      obtain ⟨A4, c4, rfl, _, _, _⟩ := hN4
      have hx5 := hx4.skip (.cells #[.slice A4 m4 c4] 24)
      have hf5 : (w4.alloc (.cells #[.slice A4 m4 c4] 24)).frozen? ⟨w.heap.size + 1, 0, none⟩ = false := (((Below.refl w4.heap.size w4).alloc (Nat.le_refl _) _).frozen (p := ⟨w.heap.size + 1, 0, none⟩) hx4.cells.1.2).trans hf4
      have hc5 : (w4.alloc (.cells #[.slice A4 m4 c4] 24)).cell? ⟨w4.heap.size, 0, none⟩ = some (.slice A4 m4 c4) := by simp
      have hN5 := Lib.hid (hN4'.out.alloc (.cells #[.slice A4 m4 c4] 24))
      obtain ⟨⟨r0, zr⟩, ⟨q0, z0⟩, -⟩ := hx5.cells
      clear hf4 hx4
      generalize hW5 : w4.alloc (.cells #[.slice A4 m4 c4] 24) = w5 at *
      go_wp2
      exact bodyPost_ret (results_tab3 rfl _ _ (w.heap.size + 1) (.slice A4 m4 c4) rfl (hx5.res _)) rfl ⟨_, m4, M4, a4, (e4 == 0), e4, rfl, hR.out, hN5.out.setBox r0 (fun _ _ h => by cases h) _, hx5.bset _ _ (by omega) _⟩
  · have d2 : (e2 != 0) = true := by simpa using he2
    have hR := Lib.hid (LeT.err (most := most) x y d e2 hT he2 N)
    clear he2
    go_wp2
    exact bodyPost_ret (results_tab3 rfl _ _ (w.heap.size + 1) (.slice none 0 0) rfl (hx2.res _)) rfl ⟨_, 0, N, 0, false, e2, rfl, hR.out, NdsAt.nil _ _, hx2.bset _ _ (by omega) _⟩
end Go.Proofs.Ytofcjpfbbeamnaa

namespace Go.Proofs.Ytofcjpfbbeamnaa
open Go.RowKit Go.Maps
set_option maxRecDepth 100000

def OfV (n : Nat) (N : Nat → Nd) (id X K : Int) : Prop := CheckP n N ∧ ∃ i b : Nat, id = i ∧ i < n ∧ (N i).sort = 1 ∧ X = b ∧ OfR N i 0 (some (b, K))
theorem OfT.val {n : Nat} {N : Nat → Nd} {id b k er X K : Int} (h : OfT n N id b k er) (hv : OfV n N id X K) : b = X ∧ k = K ∧ er = 0 := by
  obtain ⟨hc, i, b', rfl, hi, hs, rfl, ho⟩ := hv
  cases h with
  | arg h => exact absurd ⟨hc, by omega, by omega⟩ h
  | sort _ i' _ e h => have : i' = i := by omega
                       subst this; exact absurd hs h
  | over _ i' _ e _ h =>
    have : i' = i := by omega
    subst this; have := ofR_det h ho; cases this
  | ok _ i' _ e _ b'' k' h =>
    have : i' = i := by omega
    subst this
    have := ofR_det h ho
    injection this with this
    injection this with e1 e2
    exact ⟨by omega, e2, rfl⟩
theorem DiffT.val {n : Nat} {N : Nat → Nd} {a b c x y d er X M Y K : Int} (h : DiffT n N a b c x y d er) (ha : OfV n N a X M) (hb : OfV n N b Y K) (h1 : subOk c M = true) (h2 : addOk (c - M) K = true) : x = X ∧ y = Y ∧ d = c - M + K ∧ er = 0 := by
  cases h with
  | e1 _ _ _ h he => exact absurd (h.val ha).2.2 he
  | e2 _ _ _ _ _ _ h he => exact absurd (h.val hb).2.2 he
  | over _ _ h _ _ h' ho =>
    obtain ⟨_, e1, _⟩ := h.val ha
    obtain ⟨_, e2, _⟩ := h'.val hb
    rw [e1, e2] at ho; exact absurd ⟨h1, h2⟩ ho
  | ok _ _ h _ _ h' =>
    obtain ⟨e0, e1, _⟩ := h.val ha
    obtain ⟨e2, e3, _⟩ := h'.val hb
    exact ⟨e0, e2, by rw [e1, e3], rfl⟩

def appNd : Nd := ⟨13, 0, 0, 0, 0, 1, 0, 0⟩
def x3 : Nat → Nd := extN newN 2 appNd
def x4 : Nat → Nd := extN x3 3 (addNd 2 1)
def x5 : Nat → Nd := extN x4 4 (addNd 3 2)
theorem appNd_R : NdR appNd := ⟨⟨by decide, by decide⟩, ⟨by decide, by decide⟩, R64_0, R64_0, R64_0, ⟨by decide, by decide⟩, R64_0, R64_0⟩
theorem stands_app (at_ : Int) : StandsP appNd at_ := by
  have arg : ∀ i, argP appNd at_ i := fun i => ⟨fun h => by simp [appNd] at h; omega, fun _ => by unfold Nd.arg appNd; split <;> rfl⟩
  exact ⟨by show ar 13 ≠ -2; decide, fun h => by exact absurd h (by show ¬ (0 ≤ ar 13); decide), by decide, by decide, by decide, by decide, arg 0, arg 1, arg 2, by decide, by decide, fun h => absurd rfl h, fun h => by simp [appNd] at h, fun _ _ _ => rfl⟩
theorem stands_add {b k at_ : Int} (h0 : 0 ≤ b) (h1 : b < at_) (hk : mayB k = true) : StandsP (addNd b k) at_ := by
  refine ⟨by show ar 11 ≠ -2; decide, fun _ => by show (1 : Int) = ar 11; decide, by show (0 : Int) ≤ 1; decide, by show (1 : Int) ≤ 3; decide, by show (0 : Int) ≤ 1; decide, by show (1 : Int) < 6; decide, ⟨fun _ => ⟨h0, h1⟩, fun h => ?_⟩, ⟨fun h => ?_, fun _ => rfl⟩, ⟨fun h => ?_, fun _ => rfl⟩, by show (0 : Int) ≤ 0; decide, by show (0 : Int) < 12; decide, fun h => absurd rfl h, fun _ => hk, fun _ h => absurd rfl h⟩
  · exact absurd h (by show ¬ ((1 : Int) ≤ 0); decide)
  · exact absurd h (by show ¬ ((1 : Int) < 1); decide)
  · exact absurd h (by show ¬ ((2 : Int) < 1); decide)
theorem stands_not {at_ : Int} (h : 0 < at_) : StandsP notNd at_ := by
  refine ⟨by show ar 1 ≠ -2; decide, fun _ => by show (1 : Int) = ar 1; decide, by decide, by decide, by decide, by decide, ⟨fun _ => ⟨by show (0 : Int) ≤ 0; decide, h⟩, fun h => rfl⟩, ⟨fun h => ?_, fun _ => rfl⟩, ⟨fun h => ?_, fun _ => rfl⟩, by decide, by decide, fun h => absurd rfl h, fun h => ?_, fun _ _ _ => rfl⟩
  · exact absurd h (by show ¬ ((1 : Int) < 1); decide)
  · exact absurd h (by show ¬ ((2 : Int) < 1); decide)
  · exact absurd h (by show ¬ ((1 : Int) = 10 ∨ (1 : Int) = 11 ∨ (1 : Int) = 12); decide)
theorem new_app : ∀ i, i < 2 → newN i ≠ appNd := by
  intro i hi h
  have : i = 0 ∨ i = 1 := by omega
  rcases this with rfl | rfl <;> exact absurd (congrArg Nd.op h) (by decide)
theorem check_x3 : CheckP 3 x3 := check_new.ext (stands_app _) new_app
theorem x3_ne : ∀ i, i < 3 → x3 i ≠ addNd 2 1 := by
  intro i hi h
  have : i = 0 ∨ i = 1 ∨ i = 2 := by omega
  rcases this with rfl | rfl | rfl <;> exact absurd (congrArg Nd.op h) (by decide)
theorem check_x4 : CheckP 4 x4 := check_x3.ext (stands_add (by decide) (by decide) (by decide)) x3_ne
theorem x4_ne : ∀ i, i < 4 → x4 i ≠ addNd 3 2 := by
  intro i hi h
  have : i = 0 ∨ i = 1 ∨ i = 2 ∨ i = 3 := by omega
  rcases this with rfl | rfl | rfl | rfl
  · exact absurd (congrArg Nd.op h) (by decide)
  · exact absurd (congrArg Nd.op h) (by decide)
  · exact absurd (congrArg Nd.op h) (by decide)
  · exact absurd (congrArg Nd.num h) (by decide)
theorem check_x5 : CheckP 5 x5 := check_x4.ext (stands_add (by decide) (by decide) (by decide)) x4_ne
theorem x5_ne : ∀ i, i < 5 → x5 i ≠ notNd := by
  intro i hi h
  have : i = 0 ∨ i = 1 ∨ i = 2 ∨ i = 3 ∨ i = 4 := by omega
  rcases this with rfl | rfl | rfl | rfl | rfl <;> exact absurd (congrArg Nd.op h) (by decide)
theorem x5_of4 : OfV 5 x5 4 2 3 := by
  refine ⟨check_x5, 4, 2, rfl, by decide, by decide, rfl, .add (by decide) (by decide) ?_⟩
  have e : (x5 4).a0.toNat = 3 := by decide
  rw [e]
  refine .add (by decide) (by decide) ?_
  have e : (x5 3).a0.toNat = 2 := by decide
  rw [e]
  have e : 0 + (x5 4).num + (x5 3).num = 3 := by decide
  rw [e]
  exact .base (by decide) (by decide)
theorem x5_of3 : OfV 5 x5 3 2 1 := by
  refine ⟨check_x5, 3, 2, rfl, by decide, by decide, rfl, .add (by decide) (by decide) ?_⟩
  have e : (x5 3).a0.toNat = 2 := by decide
  rw [e]
  have e : 0 + (x5 3).num = 1 := by decide
  rw [e]
  exact .base (by decide) (by decide)
theorem x5_of1 : OfV 5 x5 1 1 0 := by
  refine ⟨check_x5, 1, 1, rfl, by decide, by decide, rfl, ?_⟩
  have := OfR.num (N := x5) (i := 1) (k := 0) (by decide) (by decide)
  exact this
theorem x5_le {m : Nat} {M : Nat → Nd} {id er : Int} {is : Bool} (h : LeT 5 x5 4 3 1 99 m M id is er) : id = 5 ∧ is = false ∧ er = 0 := by
  cases h with
  | err _ _ _ _ h he => exact absurd (h.val x5_of4 x5_of3 (by decide) (by decide)).2.2.2 he
  | tru _ _ h hd => have := (h.val x5_of4 x5_of3 (by decide) (by decide)).2.2.1; omega
  | fls _ _ h hd _ _ _ _ hp =>
    obtain ⟨_, _, e1, e2⟩ := hp.new check_x5 (stands_not (by decide)) x5_ne (by decide)
    exact ⟨e1, rfl, e2⟩
  | diff _ _ _ h hxy =>
    obtain ⟨e1, e2, _⟩ := h.val x5_of4 x5_of3 (by decide) (by decide)
    exact absurd (e1.trans e2.symm) hxy
theorem x5_ord : ordB 5 x5 = false := by
  cases h : ordB 5 x5 with
  | false => rfl
  | true =>
    have := (ordB_iff.1 h).ord 4 (by decide) (by decide)
    exact absurd this.2.1 (by decide)

/-- Two boxes of the call's own: the result's at B, a table's at G. -/
structure XB (w : World) (B G : Nat) (v u : Value) (x : World) : Prop where
  bx : Bx w ((G, 0, v) :: (B, 0, u) :: []) x
  fg : x.frozen? ⟨G, 0, none⟩ = false
  fb : x.frozen? ⟨B, 0, none⟩ = false
theorem XB.step {w x y : World} {B G : Nat} {v u : Value} (h : XB w B G v u x) (hb : Below x.heap.size x y) : XB w B G v u y :=
  ⟨h.bx.step hb, (hb.frozen (p := ⟨G, 0, none⟩) h.bx.cells.1.2).trans h.fg, (hb.frozen (p := ⟨B, 0, none⟩) h.bx.cells.2.1.2).trans h.fb⟩
theorem XB.set {w x : World} {B G : Nat} {v u : Value} (h : XB w B G v u x) (v' : Value) (hne : B ≠ G) (hG : w.heap.size ≤ G) : XB w B G v' u (x.setCell ⟨G, 0, none⟩ v') :=
  ⟨h.bx.set v' (by intro a ha; simp at ha; subst ha; exact hne) hG, by rw [World.frozen?_setCell]; exact h.fg, by rw [World.frozen?_setCell]; exact h.fb⟩

set_option maxHeartbeats 2000000 in
theorem x_any (w : World) : Calls Try.prog 55 #[] w fun e w' => ∃ v, e = .returned (.agg #[v]) ∧ NdsAt w' v 5 x5 ∧ Below w.heap.size w w' := by
  go_enter Try.func55, Try.ntmps55
  go_wp2_with fail
  refine (New_any _).mono ?_
  rintro e w2 ⟨v2, rfl, hN2, hb2⟩
  have hx2 := ((Bx.nil w).one (.slice none 0 0) 24).step hb2
  have hf2 : w2.frozen? ⟨w.heap.size, 0, none⟩ = false := (hb2.frozen (p := ⟨w.heap.size, 0, none⟩) (by simp)).trans (by simp)
  have hN2' := Lib.hid hN2
  obtain ⟨A2, c2, rfl, _, _, _⟩ := hN2
  have hz2 : w.heap.size < w2.heap.size := hx2.cells.1.2
  have hX3 : XB w w.heap.size w2.heap.size (.slice A2 2 c2) (.slice none 0 0) (w2.alloc (.cells #[.slice A2 2 c2] 24)) :=
    ⟨hx2.one (.slice A2 2 c2) 24, by simp, (((Below.refl w2.heap.size w2).alloc (Nat.le_refl _) _).frozen (p := ⟨w.heap.size, 0, none⟩) hz2).trans hf2⟩
  have hN3 := Lib.hid (hN2'.out.alloc (.cells #[.slice A2 2 c2] 24))
  clear hx2 hf2 hb2 hN2'
  generalize hW3 : w2.alloc (.cells #[.slice A2 2 c2] 24) = w3 at *
  have hGB : w.heap.size ≠ w2.heap.size := by omega
  have hwG : w.heap.size ≤ w2.heap.size := by omega
  obtain ⟨⟨g0, z0⟩, -⟩ := hX3.bx.cells
  go_wp2_with fail
  refine (Put_any _ 2 newN appNd 99 w3 hN3.out (by omega) appNd_R ⟨by decide, by decide⟩).mono ?_
  rintro e w4 ⟨v4, m4, M4, a4, e4, rfl, hR4, hN4, hb4⟩
  obtain ⟨rfl, rfl, rfl, rfl⟩ := hR4.new check_new (stands_app _) new_app (by decide)
  have hX4 := hX3.step hb4
  have hN4' := Lib.hid hN4
  obtain ⟨A4, c4, rfl, _, _, _⟩ := hN4
  obtain ⟨⟨g1, z1⟩, -⟩ := hX4.bx.cells
  have f1 := hX4.fg
  have hX5 := hX4.set (.slice A4 3 c4) hGB hwG
  have hN5 := Lib.hid (hN4'.out.setBox g1 (fun _ _ h => by cases h) (.slice A4 3 c4))
  clear hX3 g0 z0 hR4 hb4 hN3 hX4 hN4' hW3
  obtain ⟨⟨g0, z0⟩, -⟩ := hX5.bx.cells
  go_wp2_with fail
  refine (Put_any _ 3 x3 (addNd 2 1) 99 _ hN5.out (by omega) (addNd_R ⟨by decide, by decide⟩ ⟨by decide, by decide⟩) ⟨by decide, by decide⟩).mono ?_
  rintro e w6 ⟨v6, m6, M6, a6, e6, rfl, hR6, hN6, hb6⟩
  obtain ⟨rfl, rfl, rfl, rfl⟩ := hR6.new check_x3 (stands_add (by decide) (by decide) (by decide)) x3_ne (by decide)
  have hX6 := hX5.step hb6
  have hN6' := Lib.hid hN6
  obtain ⟨A6, c6, rfl, _, _, _⟩ := hN6
  clear f1 g1 z1
  obtain ⟨⟨g1, z1⟩, -⟩ := hX6.bx.cells
  have f1 := hX6.fg
  have hX7 := hX6.set (.slice A6 4 c6) hGB hwG
  have hN7 := Lib.hid (hN6'.out.setBox g1 (fun _ _ h => by cases h) (.slice A6 4 c6))
  clear hX5 g0 z0 hR6 hb6 hN5 hX6 hN6'
  obtain ⟨⟨g0, z0⟩, -⟩ := hX7.bx.cells
  go_wp2_with fail
  refine (Put_any _ 4 x4 (addNd 3 2) 99 _ hN7.out (by omega) (addNd_R ⟨by decide, by decide⟩ ⟨by decide, by decide⟩) ⟨by decide, by decide⟩).mono ?_
  rintro e w8 ⟨v8, m8, M8, a8, e8, rfl, hR8, hN8, hb8⟩
  obtain ⟨rfl, rfl, rfl, rfl⟩ := hR8.new check_x4 (stands_add (by decide) (by decide) (by decide)) x4_ne (by decide)
  have hX8 := hX7.step hb8
  have hN8' := Lib.hid hN8
  obtain ⟨A8, c8, rfl, _, _, _⟩ := hN8
  clear f1 g1 z1
  obtain ⟨⟨g1, z1⟩, -⟩ := hX8.bx.cells
  have f1 := hX8.fg
  have hX9 := hX8.set (.slice A8 5 c8) hGB hwG
  have hN9 := Lib.hid (hN8'.out.setBox g1 (fun _ _ h => by cases h) (.slice A8 5 c8))
  clear hX7 g0 z0 hR8 hb8 hN7 hX8 hN8'
  obtain ⟨⟨g0, z0⟩, ⟨r0, zr⟩, -⟩ := hX9.bx.cells
  have fb := hX9.fb
  go_wp2
  refine bodyPost_ret (results_tab rfl _ _ w.heap.size (.slice A8 5 c8) rfl (World.cell?_setCell_same' _ _ _ (by rw [r0]; rfl))) rfl ⟨_, rfl, hN9.out.setBox r0 (fun _ _ h => by cases h) _, hX9.bx.bel.setCell (Nat.le_refl _) _⟩

set_option maxHeartbeats 4000000 in
theorem wakes11_any (w : World) : Calls Try.prog 26 #[] w fun e w' => e = .returned (.bool true) ∧ Below w.heap.size w w' := by
  go_enter Try.func26, Try.ntmps26
  go_wp2_with fail
  refine (x_any w).mono ?_
  rintro e w2 ⟨v2, rfl, hN2, hb2⟩
  go_wp2_with fail
  refine (Of_any v2 5 x5 4 w2 hN2 (by omega) ⟨by decide, by decide⟩).mono ?_
  rintro e w3 ⟨b3, k3, e3, rfl, hT3, hb3⟩
  obtain ⟨rfl, rfl, rfl⟩ := hT3.val x5_of4
  have hbw3 := hb2.trans (hb3.mono hb2.size)
  clear hN2 hb2 hb3 hT3
  go_wp2_with fail
  refine (x_any w3).mono ?_
  rintro e w4 ⟨v4, rfl, hN4, hb4⟩
  go_wp2_with fail
  refine (Diff_any v4 5 x5 4 1 10 w4 hN4 (by omega) ⟨by decide, by decide⟩ ⟨by decide, by decide⟩ ⟨by decide, by decide⟩).mono ?_
  rintro e w5 ⟨x5', y5, d5, e5, rfl, hT5, hb5⟩
  obtain ⟨rfl, rfl, rfl, rfl⟩ := hT5.val x5_of4 x5_of1 (by decide) (by decide)
  have hbw5 := hbw3.trans ((hb4.trans (hb5.mono hb4.size)).mono hbw3.size)
  clear hN4 hb4 hb5 hT5 hbw3
  go_wp2_with fail
  refine (x_any w5).mono ?_
  rintro e w6 ⟨v6, rfl, hN6, hb6⟩
  go_wp2_with fail
  refine (Le_any v6 5 x5 4 3 1 99 w6 hN6 (by omega) ⟨by decide, by decide⟩ ⟨by decide, by decide⟩ ⟨by decide, by decide⟩ ⟨by decide, by decide⟩).mono ?_
  rintro e w7 ⟨v7, m7, M7, id7, is7, e7, rfl, hT7, hN7, hb7⟩
  obtain ⟨rfl, rfl, rfl⟩ := x5_le hT7
  obtain ⟨A7, c7, rfl, _, _, _⟩ := hN7
  have hbw7 := hbw5.trans ((hb6.trans (hb7.mono hb6.size)).mono hbw5.size)
  clear hN6 hb6 hb7 hT7 hbw5
  go_wp2_with fail
  refine (x_any _).mono ?_
  rintro e w8 ⟨v8, rfl, hN8, hb8⟩
  have hbw8 : Below w.heap.size w w8 := (hbw7.alloc hbw7.size _).trans (hb8.mono (by simp; have := hbw7.size; omega))
  clear hb8 hbw7
  go_wp2_with fail
  refine (Ordered_any v8 5 x5 w8 hN8 (by omega)).mono ?_
  rintro e w9 ⟨rfl, hb9⟩
  rw [x5_ord]
  go_wp2
  go_ret
  exact ⟨rfl, hbw8.trans (hb9.mono hbw8.size)⟩
end Go.Proofs.Ytofcjpfbbeamnaa
