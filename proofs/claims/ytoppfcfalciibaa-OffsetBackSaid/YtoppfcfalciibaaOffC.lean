/- offset.Diff. -/
import Derived.Test.YtoppfcfalciibaaOffB
namespace Go.Proofs.Ytoppfcfalciibaa
open Go.RowKit Go.Maps
set_option maxRecDepth 100000

theorem results_tmp4 {fn : Func} {t u v x : Tmp} (h : fn.results = #[.tmp t, .tmp u, .tmp v, .tmp x]) (tmps : Array Value) (P : Program) (w : World) :
    (results fn tmps).run P w = .ok (.tuple #[tmps.getD t undef, tmps.getD u undef, tmps.getD v undef, tmps.getD x undef]) w := by
  simp [results, h]
theorem OfR.lt {n : Nat} {N : Nat → Nd} (hc : CheckP n N) {i : Nat} {k : Int} {r : Option (Nat × Int)} (h : OfR N i k r) (hi : i < n) : ∀ b s, r = some (b, s) → b < n := by
  induction h with
  | add h ok t ih =>
    obtain ⟨_, ha, _⟩ := hc.add hi h
    exact ih (by omega)
  | addNo => intro b s h; cases h
  | num => intro b s e; injection e with e; injection e with e1 _; have := hc.two; omega
  | numNo => intro b s h; cases h
  | base => intro b s e; injection e with e; injection e with e1 _; omega
theorem OfT.R {n : Nat} {N : Nat → Nd} {id b k er : Int} (h : OfT n N id b k er) (hn : n ≤ 1000000) : (0 ≤ b ∧ b ≤ 1000000) ∧ mayB k = true ∧ (er = 0 ∨ er = 2 ∨ er = 33 ∨ er = 10) := by
  cases h with
  | arg => exact ⟨by omega, by decide, by omega⟩
  | sort => exact ⟨by omega, by decide, by omega⟩
  | over => exact ⟨by omega, by decide, by omega⟩
  | ok h i hi e hs b' k ho =>
    have := ho.lt h hi b' _ rfl
    exact ⟨by omega, ho.may mayB_zero _ _ rfl, by omega⟩
theorem may_R {x : Int} (h : mayB x = true) : R64 x := by have := may_lo h; unfold R64; omega
/-- What Diff tells. -/
inductive DiffT (n : Nat) (N : Nat → Nd) (a b c : Int) : Int → Int → Int → Int → Prop
  | e1 (x m er : Int) (h : OfT n N a x m er) (he : er ≠ 0) : DiffT n N a b c 0 0 0 er
  | e2 (x m : Int) (h : OfT n N a x m 0) (y k er : Int) (h' : OfT n N b y k er) (he : er ≠ 0) : DiffT n N a b c 0 0 0 er
  | over (x m : Int) (h : OfT n N a x m 0) (y k : Int) (h' : OfT n N b y k 0) (ho : ¬ (subOk c m = true ∧ addOk (c - m) k = true)) : DiffT n N a b c 0 0 0 10
  | ok (x m : Int) (h : OfT n N a x m 0) (y k : Int) (h' : OfT n N b y k 0) (h1 : subOk c m = true) (h2 : addOk (c - m) k = true) : DiffT n N a b c x y (c - m + k) 0
def DiffPost (n : Nat) (N : Nat → Nd) (a b c : Int) (w : World) (e : Ending) (w' : World) : Prop :=
  ∃ x y d er, e = .returned (.tuple #[.int .i64 x, .int .i64 y, .int .i64 d, .int .i64 er]) ∧ DiffT n N a b c x y d er ∧ Below w.heap.size w w'

set_option maxHeartbeats 4000000 in
theorem Diff_any (v : Value) (n : Nat) (N : Nat → Nd) (a b c : Int) (w : World) (hv : NdsAt w v n N) (hn : n ≤ 1000000) (ha : R64 a) (hb : R64 b) (hc : R64 c) :
    Calls Try.prog 32 #[.agg #[v], .int .i64 a, .int .i64 b, .int .i64 c] w (DiffPost n N a b c w) := by
  have hv' := Lib.hid hv
  obtain ⟨A, cp, rfl, _, _, _⟩ := hv
  have hx0 := (Bx.nil w).one (.slice A n cp) 24
  go_enter Try.func32, Try.ntmps32
  go_wp2_with fail
  refine (Of_any _ n N a _ (hv'.out.below hx0.bel) hn ha).mono ?_
  rintro e w2 ⟨x, m, e2, rfl, hT1, hb2⟩
  have hx2 := hx0.step hb2
  obtain ⟨⟨q0, z0⟩, -⟩ := hx2.cells
  by_cases he2 : e2 = 0
  · subst he2
    go_wp2_with fail
    refine (Of_any _ n N b _ (hv'.out.below hx2.bel) hn hb).mono ?_
    rintro e w3 ⟨y, k, e3, rfl, hT2, hb3⟩
    have hx3 := hx2.step hb3
    clear q0 z0
    by_cases he3 : e3 = 0
    · subst he3
      obtain ⟨_, hm, _⟩ := hT1.R hn
      obtain ⟨_, hk, _⟩ := hT2.R hn
      have hm' := Lib.hid hm
      have hk' := Lib.hid hk
      clear hm hk
      go_wp2_with fail
      have hsb : SBox w3.heap.size c 0 (w3.alloc (.cells #[.int .i64 c, .int .i64 0] 109)) := ⟨by simp, by simp, by simp, by simp, by simp⟩
      refine (Ssub_any w3.heap.size c 0 m _ hsb hc (may_R hm'.out)).mono ?_
      rintro e w4 ⟨⟨v4, rfl⟩, hs4, hb4⟩
      rw [if_pos rfl, if_pos rfl] at hs4
      have hbw4 : Below w3.heap.size w3 w4 := ((Below.refl _ _).alloc (Nat.le_refl _) _).trans hb4
      clear hsb hb4
      cases h1 : subOk c m with
      | true =>
        rw [h1, if_pos rfl, if_pos rfl] at hs4
        have hcm : R64 (c - m) := by
          have := h1; unfold subOk at this; simp only [Bool.and_eq_true] at this; exact may_R this.2
        have h1' := Lib.hid h1
        clear h1
        go_wp2_with fail
        refine (Sadd_any w3.heap.size (c - m) 0 k _ hs4 hcm (may_R hk'.out)).mono ?_
        rintro e w5 ⟨⟨v5, rfl⟩, hs5, hb5⟩
        rw [if_pos rfl, if_pos rfl] at hs5
        have hbw5 := Lib.hid (hx3.bel.trans ((hbw4.trans hb5).mono hx3.bel.size))
        cases h2 : addOk (c - m) k with
        | true =>
          rw [h2, if_pos rfl, if_pos rfl] at hs5
          obtain ⟨s0, s1, _, _, _⟩ := hs5
          have hR := Lib.hid (DiffT.ok x m hT1 y k hT2 h1'.out h2)
          clear h2
          go_wp2
          go_quiet (fail)
          go_wp2
          exact bodyPost_ret (results_tmp4 rfl _ _ _) rfl ⟨_, _, _, _, rfl, hR.out, below_drewN hbw5.out _⟩
        | false =>
          rw [h2, if_neg (by decide), if_neg (by decide)] at hs5
          obtain ⟨s0, s1, _, _, _⟩ := hs5
          have hR := Lib.hid (DiffT.over x m hT1 y k hT2 (fun h => by rw [h2] at h; exact absurd h.2 (by decide)))
          clear h2
          go_wp2
          go_quiet (fail)
          go_wp2
          exact bodyPost_ret (results_tmp4 rfl _ _ _) rfl ⟨_, _, _, _, rfl, hR.out, below_drewN hbw5.out _⟩
      | false =>
        rw [h1, if_neg (by decide), if_neg (by decide)] at hs4
        have hR := Lib.hid (DiffT.over x m hT1 y k hT2 (fun h => by rw [h1] at h; exact absurd h.1 (by decide)))
        clear h1
        go_wp2_with fail
        refine (Sadd_any w3.heap.size 0 10 k _ hs4 R64_0 (may_R hk'.out)).mono ?_
        rintro e w5 ⟨⟨v5, rfl⟩, hs5, hb5⟩
        rw [if_neg (by decide), if_neg (by decide)] at hs5
        have hbw5 := Lib.hid (hx3.bel.trans ((hbw4.trans hb5).mono hx3.bel.size))
        obtain ⟨s0, s1, _, _, _⟩ := hs5
        go_wp2
        go_quiet (fail)
        go_wp2
        exact bodyPost_ret (results_tmp4 rfl _ _ _) rfl ⟨_, _, _, _, rfl, hR.out, below_drewN hbw5.out _⟩
    · have d3 : (e3 != 0) = true := by simpa using he3
      have hR := Lib.hid (DiffT.e2 (c := c) x m hT1 y k e3 hT2 he3)
      clear he3
      go_wp2
      exact bodyPost_ret (results_tmp4 rfl _ _ _) rfl ⟨_, _, _, _, rfl, hR.out, hx3.bel⟩
  · have d2 : (e2 != 0) = true := by simpa using he2
    have hR := Lib.hid (DiffT.e1 (b := b) (c := c) x m e2 hT1 he2)
    clear he2
    go_wp2
    exact bodyPost_ret (results_tmp4 rfl _ _ _) rfl ⟨_, _, _, _, rfl, hR.out, hx2.bel⟩
end Go.Proofs.Ytoppfcfalciibaa
