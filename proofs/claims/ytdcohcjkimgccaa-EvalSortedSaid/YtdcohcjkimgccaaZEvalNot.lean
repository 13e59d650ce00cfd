/- gantrylaw10.EvalNot. -/
import Derived.Test.YtdcohcjkimgccaaZEvNEvS
import Derived.Test.YtdcohcjkimgccaaZRPut
import Derived.Test.YtdcohcjkimgccaaZGreat5GreatW
import Derived.Test.YtdcohcjkimgccaaZGreatG
import Derived.Test.YtdcohcjkimgccaaZWakes10
import Derived.StillTailTactics
import Derived.BigQuiet
import Derived.Deep.RegionHeld3
import Derived.BigGuardPart
namespace Go.Proofs.Ytdcohcjkimgccaa
open Go.RowKit
set_option maxRecDepth 1000000

theorem not_R {a : Int} (h0 : 0 ≤ a) (h1 : a ≤ 300) : NdR (notN a) := by
  refine ⟨?_, ?_, ⟨?_, ?_⟩, ?_, ?_, ?_, ?_, ?_⟩ <;> first | (show _ ≤ a; omega) | (show a ≤ _; omega) | exact ⟨by show (_ : Int) ≤ 1; decide, by show (1 : Int) ≤ _; decide⟩ | exact ⟨by show (_ : Int) ≤ 0; decide, by show (0 : Int) ≤ _; decide⟩
theorem ite_R {a b c s : Int} (h0 : 0 ≤ a ∧ a ≤ 300) (h1 : 0 ≤ b ∧ b ≤ 300) (h2 : 0 ≤ c ∧ c ≤ 300) (h3 : R64 s) : NdR (iteN a b c s) := by
  refine ⟨?_, ?_, ⟨?_, ?_⟩, ⟨?_, ?_⟩, ⟨?_, ?_⟩, h3, ?_, ?_⟩ <;> first | (show _ ≤ a; omega) | (show a ≤ _; omega) | (show _ ≤ b; omega) | (show b ≤ _; omega) | (show _ ≤ c; omega) | (show c ≤ _; omega) | exact ⟨by show (_ : Int) ≤ 7; decide, by show (7 : Int) ≤ _; decide⟩ | exact ⟨by show (_ : Int) ≤ 3; decide, by show (3 : Int) ≤ _; decide⟩ | exact ⟨by show (_ : Int) ≤ 0; decide, by show (0 : Int) ≤ _; decide⟩
/-- The boxes of the three inputs. -/
def evK (w : World) (sv fv mv zv wv tv : Value) : List (Nat × Nat × Value) := [(w.heap.size + 1 + 1, 0, tv), (w.heap.size + 1, 0, zv), (w.heap.size + 1, 1, wv), (w.heap.size, 0, sv), (w.heap.size, 1, fv), (w.heap.size, 2, mv)]
theorem evK_bx (w : World) (sv fv mv zv wv tv : Value) : Bx w (evK w sv fv mv zv wv tv) (((w.alloc (.cells #[sv, fv, mv] 48)).alloc (.cells #[zv, wv] 51)).alloc (.cells #[tv] 24)) := by
  have h := (((Bx.nil w).row #[sv, fv, mv] 48).row #[zv, wv] 51).row #[tv] 24
  simp only [rowK, World.size_alloc, List.append_nil, List.cons_append, List.nil_append] at h
  exact h
set_option maxHeartbeats 16000000 in
theorem EvalNot_any (sv fv mv zv wv tv : Value) (g : Sg) (W : Wd) (n : Nat) (N : Nat → Nd) (a b c : Int) (w : World) (hG : SgAt w sv fv mv g) (hW : WdAt w zv wv W) (hv : NdsAt w tv n N) :
    Calls Try.prog 9 #[.agg #[sv, fv, mv], .agg #[zv, wv], .agg #[tv], .int .i64 a, .int .i64 b, .int .i64 c] w fun e w' => e = .returned (.bool true) ∧ Below w.heap.size w w' := by
  have hwk := Lib.hid wakes10_any
  have hG' := Lib.hid hG
  have hW' := Lib.hid hW
  have hv' := Lib.hid hv
  have hx0 := Lib.hid (evK_bx w sv fv mv zv wv tv)
  have hVa := Lib.hid fun (hf : FewG g) (hw : FewW W) (hn : n ≤ 1000000) (id : Int) (x : World) (hb : Below w.heap.size w x) => EValue_any sv fv mv zv wv tv g W n N id x (hG.below hb) hf (hW.below hb) hw (hv.below hb) hn
  have hVb := Lib.hid fun (hf : FewG g) (hw : FewW W) (tv' : Value) (m : Nat) (M : Nat → Nd) (hm : m ≤ 1000000) (id : Int) (x : World) (hb : Below w.heap.size w x) (hM : NdsAt x tv' m M) => EValue_any sv fv mv zv wv tv' g W m M id x (hG.below hb) hf (hW.below hb) hw hM hm
  have hg1 := Lib.hid fun (x : World) (hb : Below w.heap.size w x) => Great_any sv fv mv g x (hG.below hb)
  have hg2 := Lib.hid fun (x : World) (hb : Below w.heap.size w x) => greatW_any zv wv W x (hW.below hb)
  have hg5 := Lib.hid fun (x : World) (hb : Below w.heap.size w x) => Great5_any tv n N x (hv.below hb)
  have hPu := Lib.hid fun (e : Nd) (hn : n ≤ 1000000) (he : NdR e) (hm : R64 ((n : Int) + 1)) (x : World) (hb : Below w.heap.size w x) => RPut_any tv n N e ((n : Int) + 1) x (hv.below hb) hn he hm
  have hrs := Lib.hid hv.ranges
  obtain ⟨SA, sc, rfl, -, -⟩ := hG.1
  obtain ⟨FA, fc, rfl, -, -⟩ := hG.2.1
  obtain ⟨MA, mc, rfl, -, -⟩ := hG.2.2
  obtain ⟨ZA, zc, rfl, -, -, -⟩ := hW.1
  obtain ⟨WA, wq, rfl, -, -⟩ := hW.2
  obtain ⟨TA, tc, rfl, -, -, hcs⟩ := hv
  have hcs' := Lib.hid hcs
  clear hG hW hcs
  go_enter Try.func9, Try.ntmps9
  go_wp2_with fail
  refine (hg1.out _ hx0.out.bel).mono ?_
  rintro e w1 ⟨⟨bb, rfl, hfew⟩, hb1⟩
  have hx1 := Lib.hid (hx0.out.step hb1)
  have hfew' := Lib.hid hfew
  clear hb1 hx0 hfew hg1
  cases bb with
  | true =>
    go_wp2_with (go_at_call 23; (with_reducible refine (hwk.out _).mono ?_); rintro e w2 ⟨rfl, hb2⟩; have hx2 := Lib.hid (hx1.out.step hb2))
    go_ret
    exact ⟨rfl, hx2.out.bel⟩
  | false =>
  have hfw := Lib.hid (hfew'.out rfl)
  obtain ⟨⟨k0, -⟩, ⟨k1, -⟩, ⟨k2, -⟩, ⟨k3, -⟩, ⟨k4, -⟩, ⟨k5, -⟩, -⟩ := hx1.out.cells
  clear hfew'
  go_wp2_with fail
  refine (hg2.out _ hx1.out.bel).mono ?_
  rintro e w2 ⟨rfl, hb2⟩
  have hx2 := Lib.hid (hx1.out.step hb2)
  have hsm := Lib.hid (@great_small W)
  clear hb2 hx1 hg2 k0 k1 k2 k3 k4 k5
  generalize greatWB W = bb at *
  cases bb with
  | true =>
    go_wp2_with (go_at_call 23; (with_reducible refine (hwk.out _).mono ?_); rintro e w3 ⟨rfl, hb3⟩; have hx3 := Lib.hid (hx2.out.step hb3))
    go_ret
    exact ⟨rfl, hx3.out.bel⟩
  | false =>
  have hfW := Lib.hid ((hsm.out rfl).few)
  obtain ⟨⟨k0, -⟩, ⟨k1, -⟩, ⟨k2, -⟩, ⟨k3, -⟩, ⟨k4, -⟩, ⟨k5, -⟩, -⟩ := hx2.out.cells
  clear hsm
  go_wp2_with fail
  refine (hg5.out _ hx2.out.bel).mono ?_
  rintro e w3 ⟨rfl, hb3⟩
  have hx3 := Lib.hid (hx2.out.step hb3)
  clear hb3 hx2 hg5 k0 k1 k2 k3 k4 k5
  by_cases hn3 : 300 < n
  · have d1 : decide (300 < n) = true := decide_eq_true hn3
    clear hn3
    go_wp2_with (go_at_call 23; (with_reducible refine (hwk.out _).mono ?_); rintro e w4 ⟨rfl, hb4⟩; have hx4 := Lib.hid (hx3.out.step hb4))
    go_ret
    exact ⟨rfl, hx4.out.bel⟩
  have d1 : decide (300 < n) = false := decide_eq_false hn3
  have hn : n ≤ 300 := by omega
  clear hn3
  obtain ⟨⟨k0, -⟩, ⟨k1, -⟩, ⟨k2, -⟩, ⟨k3, -⟩, ⟨k4, -⟩, ⟨k5, -⟩, -⟩ := hx3.out.cells
  by_cases hin : (0 ≤ a ∧ a < n) ∧ (0 ≤ b ∧ b < n) ∧ (0 ≤ c ∧ c < n)
  case neg =>
    have hd : decide (a < 0) = true ∨ (decide (a < 0) = false ∧ decide ((n : Int) ≤ a) = true) ∨ (decide (a < 0) = false ∧ decide ((n : Int) ≤ a) = false ∧ decide (b < 0) = true) ∨ (decide (a < 0) = false ∧ decide ((n : Int) ≤ a) = false ∧ decide (b < 0) = false ∧ decide ((n : Int) ≤ b) = true)
        ∨ (decide (a < 0) = false ∧ decide ((n : Int) ≤ a) = false ∧ decide (b < 0) = false ∧ decide ((n : Int) ≤ b) = false ∧ decide (c < 0) = true) ∨ (decide (a < 0) = false ∧ decide ((n : Int) ≤ a) = false ∧ decide (b < 0) = false ∧ decide ((n : Int) ≤ b) = false ∧ decide (c < 0) = false ∧ decide ((n : Int) ≤ c) = true) := by
      simp only [decide_eq_true_eq, decide_eq_false_iff_not]
      omega
    clear hin hVa hVb hPu hrs hcs'
    rcases hd with _ | ⟨_, _⟩ | ⟨_, _, _⟩ | ⟨_, _, _, _⟩ | ⟨_, _, _, _, _⟩ | ⟨_, _, _, _, _, _⟩
    all_goals
      go_wp2_with (go_at_call 23; (with_reducible refine (hwk.out _).mono ?_); rintro e w4 ⟨rfl, hb4⟩; have hx4 := Lib.hid (hx3.out.step hb4))
      go_ret
      exact ⟨rfl, hx4.out.bel⟩
  obtain ⟨⟨a0, a1⟩, ⟨b0, b1⟩, ⟨c0, c1⟩⟩ := hin
  obtain ⟨a, rfl⟩ : ∃ i : Nat, a = i := ⟨a.toNat, by omega⟩
  obtain ⟨b, rfl⟩ : ∃ i : Nat, b = i := ⟨b.toNat, by omega⟩
  obtain ⟨c, rfl⟩ : ∃ i : Nat, c = i := ⟨c.toNat, by omega⟩
  have da : decide ((n : Int) ≤ (a : Int)) = false := decide_eq_false (by omega)
  have da' : decide (n ≤ a) = false := decide_eq_false (by omega)
  have db : decide ((n : Int) ≤ (b : Int)) = false := decide_eq_false (by omega)
  have db' : decide (n ≤ b) = false := decide_eq_false (by omega)
  have dc : decide ((n : Int) ≤ (c : Int)) = false := decide_eq_false (by omega)
  have dc' : decide (n ≤ c) = false := decide_eq_false (by omega)
  have hv3 := Lib.hid (hVa.out hfw.out hfW.out (by omega) a w3 hx3.out.bel)
  go_wp2_with fail
  refine hv3.out.mono ?_
  rintro e w4 ⟨rfl, hb4⟩
  have hx4 := Lib.hid (hx3.out.step hb4)
  clear hb4 hv3 hx3 k0 k1 k2 k3 k4 k5
  obtain ⟨p, hp⟩ : ∃ p, p = valueT g W n N (a : Int) := ⟨_, rfl⟩
  rw [← hp]
  have hp' := Lib.hid hp
  clear hp
  obtain ⟨u, ue⟩ := p
  dsimp only
  obtain ⟨⟨k0, -⟩, ⟨k1, -⟩, ⟨k2, -⟩, ⟨k3, -⟩, ⟨k4, -⟩, ⟨k5, -⟩, -⟩ := hx4.out.cells
  obtain ⟨tb, tof, rfl, htb, hnd⟩ := hcs'.out (by omega)
  have hnd' := Lib.hid fun (i : Nat) (hi : i < n) (x : World) (hb : Below w.heap.size w x) => (hnd i hi).below hb htb
  clear hnd
  obtain ⟨-, -, -, -, -, ra, -, -⟩ := hnd'.out a (by omega) w4 hx4.out.bel
  by_cases hu0 : ue = 0
  case neg =>
    have d2 : (ue != 0) = true := by simpa using hu0
    clear hu0 hp' hVa hVb hPu
    go_wp2_with (go_at_call 23; (with_reducible refine (hwk.out _).mono ?_); rintro e w5 ⟨rfl, hb5⟩; have hx5 := Lib.hid (hx4.out.step hb5))
    go_ret
    exact ⟨rfl, hx5.out.bel⟩
  subst hu0
  by_cases hs0 : (N a).sort = 0
  case neg =>
    have d2 : ((N a).sort != 0) = true := by simpa using hs0
    clear hs0 hp' hVa hVb hPu
    go_wp2_with (go_at_call 23; (with_reducible refine (hwk.out _).mono ?_); rintro e w5 ⟨rfl, hb5⟩; have hx5 := Lib.hid (hx4.out.step hb5))
    go_ret
    exact ⟨rfl, hx5.out.bel⟩
  have hs0' := Lib.hid hs0
  rw [hs0] at ra
  clear hs0
  have hP4 := Lib.hid (hPu.out (notN a) (by omega) (not_R (by omega) (by omega)) ⟨by omega, by omega⟩ w4 hx4.out.bel)
  unfold ndV notN at hP4
  dsimp only at hP4
  go_wp2_with fail
  refine hP4.out.mono ?_
  rintro e w5 ⟨v5, m5, M5, k5', er5, rfl, hPR, hN5, hb5⟩
  obtain ⟨rfl, hval5, hm5, hu01⟩ := not_law (g := g) (W := W) hp'.out.symm hs0'.out hPR
  have hx5 := Lib.hid (hx4.out.step hb5)
  have hN5' := Lib.hid hN5
  obtain ⟨B5, c5, rfl, -, -, -⟩ := hN5
  clear hPR hb5 hP4 hx4 k0 k1 k2 k3 k4 k5 ra
  have hx6 := Lib.hid (hx5.out.skip (.cells #[.slice B5 m5 c5] 24))
  have hv6 := Lib.hid (hVb.out hfw.out hfW.out (.slice B5 m5 c5) m5 M5 (by omega) k5' (w5.alloc (.cells #[.slice B5 m5 c5] 24)) hx6.out.bel (hN5'.out.alloc _))
  rw [hval5] at hv6
  obtain ⟨⟨k0, -⟩, ⟨k1, -⟩, ⟨k2, -⟩, ⟨k3, -⟩, ⟨k4, -⟩, ⟨k5, -⟩, -⟩ := hx6.out.cells
  clear hx5 hN5' hval5
  go_wp2_with fail
  refine hv6.out.mono ?_
  rintro e w7 ⟨rfl, hb7⟩
  have hx7 := Lib.hid (hx6.out.step hb7)
  clear hb7 hv6 hx6 k0 k1 k2 k3 k4 k5 hm5
  obtain ⟨⟨k0, -⟩, ⟨k1, -⟩, ⟨k2, -⟩, ⟨k3, -⟩, ⟨k4, -⟩, ⟨k5, -⟩, -⟩ := hx7.out.cells
  have hv7 := Lib.hid (hVa.out hfw.out hfW.out (by omega) b w7 hx7.out.bel)
  rcases hu01 with rfl | rfl
  all_goals
    go_wp2_with fail
    refine hv7.out.mono ?_
    rintro e w8 ⟨rfl, hb8⟩
    have hx8 := Lib.hid (hx7.out.step hb8)
    clear hb8 hv7 hx7 k0 k1 k2 k3 k4 k5
    obtain ⟨⟨k0, -⟩, ⟨k1, -⟩, ⟨k2, -⟩, ⟨k3, -⟩, ⟨k4, -⟩, ⟨k5, -⟩, -⟩ := hx8.out.cells
    have hv8 := Lib.hid (hVa.out hfw.out hfW.out (by omega) c w8 hx8.out.bel)
    go_wp2_with fail
    refine hv8.out.mono ?_
    rintro e w9 ⟨rfl, hb9⟩
    have hx9 := Lib.hid (hx8.out.step hb9)
    clear hb9 hv8 hx8 k0 k1 k2 k3 k4 k5
    obtain ⟨⟨k0, -⟩, ⟨k1, -⟩, ⟨k2, -⟩, ⟨k3, -⟩, ⟨k4, -⟩, ⟨k5, -⟩, -⟩ := hx9.out.cells
    obtain ⟨p, hp⟩ : ∃ p, p = valueT g W n N (b : Int) := ⟨_, rfl⟩
    obtain ⟨q, hq⟩ : ∃ q, q = valueT g W n N (c : Int) := ⟨_, rfl⟩
    rw [← hp, ← hq]
    have hpb := Lib.hid hp
    have hpc := Lib.hid hq
    clear hp hq
    obtain ⟨x, xe⟩ := p
    obtain ⟨y, ye⟩ := q
    dsimp only
    obtain ⟨-, -, -, -, -, rb, -, -⟩ := hnd'.out b (by omega) w9 hx9.out.bel
    obtain ⟨-, -, -, -, -, rc, -, -⟩ := hnd'.out c (by omega) w9 hx9.out.bel
    by_cases hx0 : xe = 0
    case neg =>
      have d2 : (xe != 0) = true := by simpa using hx0
      clear hx0 hpb hpc hVa hVb hPu
      go_upto_region 15 with fail
      go_quiet (fail)
      go_wp2_with (go_at_call 23; (with_reducible refine (hwk.out _).mono ?_); rintro e w10 ⟨rfl, hb10⟩; have hx10 := Lib.hid ((hx9.out.drewN _).step hb10))
      go_ret
      exact ⟨rfl, hx10.out.bel⟩
    subst hx0
    by_cases hy0 : ye = 0
    case neg =>
      have d2 : (ye != 0) = true := by simpa using hy0
      clear hy0 hpb hpc hVa hVb hPu
      go_upto_region 15 with fail
      go_quiet (fail)
      go_wp2_with (go_at_call 23; (with_reducible refine (hwk.out _).mono ?_); rintro e w10 ⟨rfl, hb10⟩; have hx10 := Lib.hid ((hx9.out.drewN _).step hb10))
      go_ret
      exact ⟨rfl, hx10.out.bel⟩
    subst hy0
    have hsb := (hrs.out b (by omega)).sort
    have hss := Lib.hid fun e : Int => @ite_R a b c e ⟨by omega, by omega⟩ ⟨by omega, by omega⟩ ⟨by omega, by omega⟩
    have hil := Lib.hid fun (h1 : (N b).sort = (N c).sort) (m : Nat) (M : Nat → Nd) (k er : Int) hp => ite_law (g := g) (W := W) (m := m) (M := M) (k := k) (er := er) hp'.out.symm hpb.out.symm hpc.out.symm hs0'.out h1 hp
    have hsb' := Lib.hid hsb
    rw [show (((b : Int).toNat : Nat)) = b from Int.toNat_natCast b] at hil
    obtain ⟨sb, hsbe⟩ : ∃ s, s = (N b).sort := ⟨_, rfl⟩
    obtain ⟨sc', hsce⟩ : ∃ s, s = (N c).sort := ⟨_, rfl⟩
    rw [← hsbe] at rb hil hsb'
    rw [← hsce] at rc hil
    clear hsce hsb
    by_cases hse : sb = sc'
    case neg =>
      have d2 : (sb != sc') = true := by simpa using hse
      clear hse hpb hpc hVa hVb hPu hil hss
      go_upto_region 15 with fail
      go_quiet (fail)
      go_wp2_with (go_at_call 23; (with_reducible refine (hwk.out _).mono ?_); rintro e w10 ⟨rfl, hb10⟩; have hx10 := Lib.hid ((hx9.out.drewN _).step hb10))
      go_ret
      exact ⟨rfl, hx10.out.bel⟩
    subst hse
    have d2 : (sb != sb) = false := by simp
    go_upto_region 15 with fail
    go_quiet (fail)
    have hx10 := Lib.hid (hx9.out.drewN nq)
    clear rb rc hx9 k0 k1 k2 k3 k4 k5
    generalize hw10 : w9.drewN nq = w10 at *
    clear hw10
    obtain ⟨⟨k0, -⟩, ⟨k1, -⟩, ⟨k2, -⟩, ⟨k3, -⟩, ⟨k4, -⟩, ⟨k5, -⟩, -⟩ := hx10.out.cells
    obtain ⟨-, -, -, -, -, rb, -, -⟩ := hnd'.out b (by omega) w10 hx10.out.bel
    have hsbb : (N b).sort = sb := hsbe.symm
    rw [hsbb] at rb
    have hPi := Lib.hid fun (x : World) (hb : Below w10.heap.size w10 x) => hPu.out (iteN a b c sb) (by omega) (hss.out sb hsb'.out) ⟨by omega, by omega⟩ x (hx10.out.step hb).bel
    unfold ndV iteN at hPi
    dsimp only at hPi
    have hKp : ∀ {x : World}, Below w10.heap.size w10 x → (x.cell? ⟨w.heap.size + 1 + 1, 0, none⟩ = some (.slice (some ⟨tb, tof, none⟩) n tc) ∧ x.cell? ⟨tb, tof + b * 8 + 5, none⟩ = some (.int .i64 sb)) := fun {x} hb => by
      obtain ⟨⟨k0, -⟩, -⟩ := (hx10.out.step hb).cells
      obtain ⟨-, -, -, -, -, rb, -, -⟩ := hnd'.out b (by omega) x (hx10.out.step hb).bel
      rw [hsbb] at rb
      exact ⟨k0, rb⟩
    have hwn : IntKind.i64.wrap ((n : Int) + 1) = (n : Int) + 1 := by rw [IntKind.wrap_i64]; omega
    have hb0 : Below w10.heap.size w10 w10.drew := (Below.refl _ _).drew
    have hbA : Below w10.heap.size w10 (w10.alloc (.cells #[.slice none 0 0] 24)).drew := ((Below.refl _ _).alloc (Nat.le_refl _) _).drew
    have hbA0 : Below w10.heap.size w10 (w10.alloc (.cells #[.slice none 0 0] 24)) := (Below.refl _ _).alloc (Nat.le_refl _) _
    clear k0 k1 k2 k3 k4 k5 rb hPu hVa hsbb hsbe
    go_upto_region 17 with fail
    go_region_held3 (fun x => x.cell? ⟨w.heap.size + 1 + 1, 0, none⟩ = some (.slice (some ⟨tb, tof, none⟩) n tc) ∧ x.cell? ⟨tb, tof + b * 8 + 5, none⟩ = some (.int .i64 sb))
      (first | exact hKp hb0 | exact hKp hbA | exact hKp hbA0 | exact hKp hb11 | exact hKp (hb11.alloc hb11.size _) | exact hKp (hb11.setCell (p := ⟨w10.heap.size, 0, none⟩) (Nat.le_refl _) _) | fail)
      (first | (go_at_call 31; (with_reducible refine (hPi.out _ hb0).mono ?_); rintro e w11 ⟨v11, m11, M11, k11, er11, rfl, hPR, hN11, hb11⟩; replace hb11 := hb0.trans (hb11.mono hb0.size); obtain ⟨hil1, hil2, hil3⟩ := hil.out rfl m11 M11 k11 er11 hPR; subst hil1; have hN11' := Lib.hid hN11; obtain ⟨B11, c11, rfl, -, -, -⟩ := hN11) | (go_at_call 31; (with_reducible refine (hPi.out _ hbA).mono ?_); rintro e w11 ⟨v11, m11, M11, k11, er11, rfl, hPR, hN11, hb11⟩; have kB : w11.cell? ⟨w10.heap.size, 0, none⟩ = some (.slice none 0 0) := (hb11.cell (p := ⟨w10.heap.size, 0, none⟩) (by simp)).trans (by simp); have fB : w11.frozen? ⟨w10.heap.size, 0, none⟩ = false := (hb11.frozen (p := ⟨w10.heap.size, 0, none⟩) (by simp)).trans (by simp); replace hb11 := hbA.trans (hb11.mono hbA.size); obtain ⟨hil1, hil2, hil3⟩ := hil.out rfl m11 M11 k11 er11 hPR; subst hil1; have hN11' := Lib.hid hN11; obtain ⟨B11, c11, rfl, -, -, -⟩ := hN11) | fail)
    all_goals simp only [show ¬ ((0 : Int) = 1) by decide, if_false, if_true] at hil2
    · have hb12 : Below w10.heap.size w10 (w11.alloc (.cells #[.slice B11 m11 c11] 24)) := hb11.alloc hb11.size _
      have hN12 := Lib.hid (hN11'.out.alloc (.cells #[.slice B11 m11 c11] 24))
      have kT : (w11.alloc (.cells #[.slice B11 m11 c11] 24)).cell? ⟨w11.heap.size, 0, none⟩ = some (.slice B11 m11 c11) := by simp
      generalize w11.alloc (.cells #[.slice B11 m11 c11] 24) = W12 at *
      have hx12 := Lib.hid (hx10.out.step hb12)
      have hv12 := Lib.hid (hVb.out hfw.out hfW.out (.slice B11 m11 c11) m11 M11 (by omega) k11 W12 hx12.out.bel hN12.out)
      rw [hil2] at hv12
      obtain ⟨⟨k0, -⟩, ⟨k1, -⟩, ⟨k2, -⟩, ⟨k3, -⟩, ⟨k4, -⟩, ⟨k5, -⟩, -⟩ := hx12.out.cells
      clear hN12 hb12 hb11 hx10 hKp hPi hil hil2 hil3 hPR hN11' hb0 hbA hbA0 hVb
      go_wp2_with fail
      refine hv12.out.mono ?_
      rintro e w13 ⟨rfl, hb13⟩
      have hx13 := Lib.hid (hx12.out.step hb13)
      have exx : (x == x) = true := by simp
      have eyy : (y == y) = true := by simp
      clear hb13 hv12 hx12 k0 k1 k2 k3 k4 k5
      go_wp2_with (go_at_call 23; (with_reducible refine (hwk.out _).mono ?_); rintro e w14 ⟨rfl, hb14⟩; have hx14 := Lib.hid (hx13.out.step hb14))
      go_ret
      exact ⟨rfl, hx14.out.bel⟩
    · have hb12 : Below w10.heap.size w10 (w11.setCell ⟨w10.heap.size, 0, none⟩ (.slice B11 m11 c11)) := hb11.setCell (p := ⟨w10.heap.size, 0, none⟩) (Nat.le_refl _) _
      have hN12 := Lib.hid (hN11'.out.setBox kB (fun _ _ h => by cases h) (.slice B11 m11 c11))
      have kT : (w11.setCell ⟨w10.heap.size, 0, none⟩ (.slice B11 m11 c11)).cell? ⟨w10.heap.size, 0, none⟩ = some (.slice B11 m11 c11) := World.cell?_setCell_same' _ _ _ (by rw [kB]; rfl)
      generalize w11.setCell ⟨w10.heap.size, 0, none⟩ (.slice B11 m11 c11) = W12 at *
      have hx12 := Lib.hid (hx10.out.step hb12)
      have hv12 := Lib.hid (hVb.out hfw.out hfW.out (.slice B11 m11 c11) m11 M11 (by omega) k11 W12 hx12.out.bel hN12.out)
      rw [hil2] at hv12
      obtain ⟨⟨k0, -⟩, ⟨k1, -⟩, ⟨k2, -⟩, ⟨k3, -⟩, ⟨k4, -⟩, ⟨k5, -⟩, -⟩ := hx12.out.cells
      clear hN12 hb12 hb11 hx10 hKp hPi hil hil2 hil3 hPR hN11' hb0 hbA hbA0 hVb
      go_wp2_with fail
      refine hv12.out.mono ?_
      rintro e w13 ⟨rfl, hb13⟩
      have hx13 := Lib.hid (hx12.out.step hb13)
      have exx : (x == x) = true := by simp
      have eyy : (y == y) = true := by simp
      clear hb13 hv12 hx12 k0 k1 k2 k3 k4 k5
      go_wp2_with (go_at_call 23; (with_reducible refine (hwk.out _).mono ?_); rintro e w14 ⟨rfl, hb14⟩; have hx14 := Lib.hid (hx13.out.step hb14))
      go_ret
      exact ⟨rfl, hx14.out.bel⟩
end Go.Proofs.Ytdcohcjkimgccaa
