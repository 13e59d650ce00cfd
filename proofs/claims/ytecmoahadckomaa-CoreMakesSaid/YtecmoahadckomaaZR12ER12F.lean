/- gantryref12.bools, ite. -/
import Derived.Test.YtecmoahadckomaaZR12CR12D
import Derived.Test.YtecmoahadckomaaZMkBMkC
import Derived.Test.YtecmoahadckomaaZMkDMkEMkF
import Derived.Test.YtecmoahadckomaaZEvPToEvN
namespace Go.Proofs.Ytecmoahadckomaa
open Go.RowKit Go.Maps
set_option maxRecDepth 1000000

theorem PutOpR.so {most : Int} {s s' : CSt} {op : Int} {k : Nat} {A : Nat → Int} {x : Int} (h : PutOpR most s op k A s' x) (he : s'.e = 0) : (s'.N x.toNat).sort = (opT op k (sortsA s A)).1 ∧ 0 ≤ x ∧ x < s'.n := by
  cases h with
  | err hh => exact absurd he hh
  | sort hh hs => exact absurd (show (33 : Int) = 0 from he) (by decide)
  | put hh hs s' x hp =>
    cases hp with
    | err hh => exact absurd he hh
    | put hh K M x er hp =>
      rw [keptS_e] at he
      subst he
      rw [keptS_ok]
      obtain ⟨j, rfl, hj, hje, _⟩ := hp.good
      exact ⟨by rw [Int.toNat_natCast]; show (M j).sort = _; rw [hje]; rfl, by omega, by show (j : Int) < (K : Int); omega⟩
set_option maxHeartbeats 16000000 in
theorem R12xor_any (v : Value) (n : Nat) (N : Nat → Nd) (a b most : Int) (w : World) (hv : NdsAt w v n N) (hn : n ≤ 800000) (hk : CheckP n N) (ha : 0 ≤ a ∧ a < n) (hb : 0 ≤ b ∧ b < n) (hm : R64 most) :
    Calls Try.prog 74 #[.agg #[v], .int .i8 4, .int .i64 a, .int .i64 b, .int .i64 most] w (RfPost (fun s' x => ∃ s1 y, PutOpR most ⟨n, N, 0⟩ 6 2 (pk2 a b) s1 y ∧ NotMR most s1 y s' x) w) := by
  have hv' := Lib.hid hv
  have hk' := Lib.hid hk
  obtain ⟨TA, c, rfl, -, -, -⟩ := hv
  have hx1 := Lib.hid (TwoB.start w TA n c)
  have hRa : R64 a := by unfold R64; omega
  have hRb : R64 b := by unfold R64; omega
  have hin : Hid (∀ k, k < 2 → 0 ≤ pk2 a b k ∧ pk2 a b k < n) := fun k _ => by unfold pk2; split <;> omega
  clear hk ha hb
  go_enter Try.func74, Try.ntmps74
  go_upto_region 1 with fail
  generalize hW1 : (w.alloc (.cells #[.slice TA n c] 24)).alloc (.cells #[.slice none 0 0] 24) = w1 at *
  clear hW1
  have r1 := hx1.out.r
  have q1 := hx1.out.t
  have f1 := hx1.out.fr
  have hx2 := Lib.hid (hx1.out.skip (.cells #[.int .i64 a, .int .i64 b] 3))
  have hPu := Lib.hid (R12put_any _ n N 6 _ 2 (pk2 a b) most _ (hv'.out.below hx2.out.bel) (by omega) ⟨by decide, by decide⟩ (ints_pair w1 a b hRa hRb) ⟨by omega, by omega⟩ hm hin.out)
  go_wp2_with fail
  refine hPu.out.mono ?_
  rintro e w3 ⟨v3, ⟨m3, M3, e3⟩, x3, y3, rfl, hR3, hy3, hN3, hb3⟩
  have hR3' := Lib.hid hR3
  have hx3 := Lib.hid (hx2.out.step hb3)
  have hy3' := Lib.hid hy3
  obtain ⟨k3, hk3⟩ : ∃ k3, k3 = tabN ⟨m3, M3, e3⟩ := ⟨_, rfl⟩
  rw [← hk3] at hN3
  have hk3' := Lib.hid hk3
  have hN3' := Lib.hid hN3
  obtain ⟨A3, c3, rfl, -, -, -⟩ := hN3
  have hx4 := Lib.hid (hx3.out.skip (.cells #[.slice A3 k3 c3] 24))
  have hN4 := Lib.hid (hN3'.out.alloc (.cells #[.slice A3 k3 c3] 24))
  have k4 : (w3.alloc (.cells #[.slice A3 k3 c3] 24)).cell? ⟨w3.heap.size, 0, none⟩ = some (.slice A3 k3 c3) := by simp
  dsimp only at hy3'
  clear hR3 hb3 hPu hx1 hx2 r1 q1 f1 hin hk3 hy3
  go_upto_region 3 with fail
  generalize hW4 : w3.alloc (.cells #[.slice A3 k3 c3] 24) = w4 at *
  clear hx3 hN3' hW4
  have r4 := hx4.out.r
  have f4 := hx4.out.fr
  by_cases he : e3 = 0
  case neg =>
    have d2 : (e3 != 0) = true := by simpa using he
    have hRR : Hid (∃ s1 y, PutOpR most ⟨n, N, 0⟩ 6 2 (pk2 a b) s1 y ∧ NotMR most s1 y ⟨m3, M3, e3⟩ 0) := ⟨_, _, hR3'.out, .put (fun h => he h.1) _ _ (.err he)⟩
    have he' := Lib.hid he
    clear he
    go_wp2_with fail
    refine bodyPost_ret (results_tab2 rfl _ _ (w.heap.size + 1) (.slice none 0 0) rfl (hx4.out.set1 _).r) rfl ?_
    exact RfPost.bad (s' := ⟨m3, M3, e3⟩) (R := fun s' x => ∃ s1 y, PutOpR most ⟨n, N, 0⟩ 6 2 (pk2 a b) s1 y ∧ NotMR most s1 y s' x) hx4.out hRR.out he'.out 0
  subst he
  obtain rfl : y3 = x3 := hy3'.out rfl
  obtain rfl : k3 = m3 := hk3'.out
  obtain ⟨-, x0, x1⟩ := hR3'.out.so rfl
  have hg := hR3'.out.grow hk'.out
  have hsz : k3 ≤ n + 1 := hg.st.size
  have hNo := Lib.hid (R12not_any _ k3 M3 y3 most w4 hN4.out (by omega) ⟨x0, x1⟩ hm)
  clear hg x0 x1 hk3' hy3'
  go_wp2_with fail
  refine hNo.out.mono ?_
  rintro e w5 ⟨v5, s5, x5, y5, rfl, hR5, hy5, hN5, hb5⟩
  have hx5 := Lib.hid (hx4.out.step hb5)
  have r5 := hx5.out.r
  have f5 := hx5.out.fr
  have hN5' := Lib.hid hN5
  have hR5' : Hid (∃ s1 y, PutOpR most ⟨n, N, 0⟩ 6 2 (pk2 a b) s1 y ∧ NotMR most s1 y s5 x5) := ⟨_, _, hR3'.out, hR5⟩
  have hy5' := Lib.hid hy5
  obtain ⟨A5, c5, rfl, -, -, -⟩ := hN5
  clear hR5 hy5 hb5 hx4 hNo hR3' r4 f4 k4 hN4
  go_wp2_with fail
  refine bodyPost_ret (results_tab2 rfl _ _ (w.heap.size + 1) (.slice A5 (tabN s5) c5) rfl (hx5.out.set1 _).r) rfl ?_
  exact RfPost.fin (R := fun s' x => ∃ s1 y, PutOpR most ⟨n, N, 0⟩ 6 2 (pk2 a b) s1 y ∧ NotMR most s1 y s' x) hx5.out hR5'.out hy5'.out hN5'.out
set_option maxHeartbeats 16000000 in
theorem R12imp_any (v : Value) (n : Nat) (N : Nat → Nd) (a b most : Int) (w : World) (hv : NdsAt w v n N) (hn : n ≤ 800000) (hk : CheckP n N) (ha : 0 ≤ a ∧ a < n) (hb : 0 ≤ b ∧ b < n) (hm : R64 most) :
    Calls Try.prog 74 #[.agg #[v], .int .i8 5, .int .i64 a, .int .i64 b, .int .i64 most] w (RfPost (fun s' x => ∃ s1 y, NotMR most ⟨n, N, 0⟩ a s1 y ∧ PutOpR most s1 3 2 (pk2 y b) s' x) w) := by
  have hv' := Lib.hid hv
  have hk' := Lib.hid hk
  obtain ⟨TA, c, rfl, -, -, -⟩ := hv
  have hx1 := Lib.hid (TwoB.start w TA n c)
  have hRb : R64 b := by unfold R64; omega
  have ha' := Lib.hid ha
  have hb' := Lib.hid hb
  clear hk ha hb
  go_enter Try.func74, Try.ntmps74
  go_upto_region 1 with fail
  generalize hW1 : (w.alloc (.cells #[.slice TA n c] 24)).alloc (.cells #[.slice none 0 0] 24) = w1 at *
  clear hW1
  have q1 := hx1.out.t
  have hNo := Lib.hid (R12not_any _ n N a most w1 (hv'.out.below hx1.out.bel) (by omega) ha'.out hm)
  go_wp2_with fail
  refine hNo.out.mono ?_
  rintro e w3 ⟨v3, ⟨m3, M3, e3⟩, x3, y3, rfl, hR3, hy3, hN3, hb3⟩
  have hR3' := Lib.hid hR3
  have hx3 := Lib.hid (hx1.out.step hb3)
  have hy3' := Lib.hid hy3
  obtain ⟨k3, hk3⟩ : ∃ k3, k3 = tabN ⟨m3, M3, e3⟩ := ⟨_, rfl⟩
  rw [← hk3] at hN3
  have hk3' := Lib.hid hk3
  have hN3' := Lib.hid hN3
  obtain ⟨A3, c3, rfl, -, -, -⟩ := hN3
  dsimp only at hy3'
  clear hR3 hb3 hNo hx1 q1 hk3 hy3
  have f3 := hx3.out.ft
  have p3 := hx3.out.t
  have hx4 := Lib.hid (hx3.out.set0 (.slice A3 k3 c3))
  have hN4 := Lib.hid (hN3'.out.setBox p3 (fun _ _ h => by cases h) (.slice A3 k3 c3))
  go_upto_region 7 with fail
  generalize hW4 : w3.setCell ⟨w.heap.size, 0, none⟩ (.slice A3 k3 c3) = w4 at *
  clear hx3 hN3' hW4 f3 p3
  have r4 := hx4.out.r
  have f4 := hx4.out.fr
  have q4 := hx4.out.t
  by_cases he : e3 = 0
  case neg =>
    have d2 : (e3 != 0) = true := by simpa using he
    have hRR : Hid (∃ s1 y, NotMR most ⟨n, N, 0⟩ a s1 y ∧ PutOpR most s1 3 2 (pk2 y b) ⟨m3, M3, e3⟩ 0) := ⟨_, _, hR3'.out, .err he⟩
    have he' := Lib.hid he
    clear he
    go_wp2_with fail
    refine bodyPost_ret (results_tab2 rfl _ _ (w.heap.size + 1) (.slice none 0 0) rfl (hx4.out.set1 _).r) rfl ?_
    exact RfPost.bad (s' := ⟨m3, M3, e3⟩) (R := fun s' x => ∃ s1 y, NotMR most ⟨n, N, 0⟩ a s1 y ∧ PutOpR most s1 3 2 (pk2 y b) s' x) hx4.out hRR.out he'.out 0
  subst he
  obtain rfl : y3 = x3 := hy3'.out rfl
  obtain rfl : k3 = m3 := hk3'.out
  have hg := hR3'.out.grow hk'.out (fun _ => ha'.out)
  have hsz : k3 ≤ n + 1 := hg.st.size
  have hmo : n ≤ k3 := hg.st.more
  have x0 : 0 ≤ y3 := hg.x0
  have x1 : y3 < (k3 : Int) := hg.x1
  have hRy : R64 y3 := by unfold R64; omega
  have hx5 := Lib.hid (hx4.out.skip (.cells #[.int .i64 y3, .int .i64 b] 3))
  have hPu := Lib.hid (R12put_any _ k3 M3 3 _ 2 (pk2 y3 b) most _ (hN4.out.below ((Below.refl w4.heap.size w4).alloc (Nat.le_refl _) (.cells #[.int .i64 y3, .int .i64 b] 3))) (by omega) ⟨by decide, by decide⟩ (ints_pair w4 y3 b hRy hRb) ⟨by omega, by omega⟩ hm (fun k _ => by have := hb'.out; unfold pk2; split <;> omega))
  clear hg x0 x1 hk3' hy3' hRy hmo
  go_wp2_with fail
  refine hPu.out.mono ?_
  rintro e w6 ⟨v6, s6, x6, y6, rfl, hR6, hy6, hN6, hb6⟩
  have hx6 := Lib.hid (hx5.out.step hb6)
  have r6 := hx6.out.r
  have f6 := hx6.out.fr
  have hN6' := Lib.hid hN6
  have hR6' : Hid (∃ s1 y, NotMR most ⟨n, N, 0⟩ a s1 y ∧ PutOpR most s1 3 2 (pk2 y b) s6 x6) := ⟨_, _, hR3'.out, hR6⟩
  have hy6' := Lib.hid hy6
  obtain ⟨A6, c6, rfl, -, -, -⟩ := hN6
  clear hR6 hy6 hb6 hx5 hx4 hPu hR3' r4 f4 q4 hN4
  go_wp2_with fail
  refine bodyPost_ret (results_tab2 rfl _ _ (w.heap.size + 1) (.slice A6 (tabN s6) c6) rfl (hx6.out.set1 _).r) rfl ?_
  exact RfPost.fin (R := fun s' x => ∃ s1 y, NotMR most ⟨n, N, 0⟩ a s1 y ∧ PutOpR most s1 3 2 (pk2 y b) s' x) hx6.out hR6'.out hy6'.out hN6'.out
end Go.Proofs.Ytecmoahadckomaa

namespace Go.Proofs.Ytecmoahadckomaa
open Go.RowKit Go.Maps
set_option maxRecDepth 1000000

theorem ite_of {F : Nat → Int} (h : (opT 7 3 F).2 = 0) : (opT 7 3 F).1 = F 1 := (opT_ite (m := 3) (F := F) (s := (opT 7 3 F).1) (Prod.ext rfl h)).2.2.2
set_option maxHeartbeats 16000000 in
theorem R12ite_any (v : Value) (n : Nat) (N : Nat → Nd) (a b c most : Int) (w : World) (hv : NdsAt w v n N) (hn : n ≤ 700000) (hk : CheckP n N) (ha : 0 ≤ a ∧ a < n) (hb : 0 ≤ b ∧ b < n) (hc : 0 ≤ c ∧ c < n) (hm : R64 most) :
    Calls Try.prog 76 #[.agg #[v], .int .i64 a, .int .i64 b, .int .i64 c, .int .i64 most] w (RfPost (IteMR most ⟨n, N, 0⟩ a b c) w) := by
  obtain ⟨ai, rfl⟩ : ∃ i : Nat, a = i := ⟨a.toNat, by omega⟩
  obtain ⟨bi, rfl⟩ : ∃ i : Nat, b = i := ⟨b.toNat, by omega⟩
  obtain ⟨ci, rfl⟩ : ∃ i : Nat, c = i := ⟨c.toNat, by omega⟩
  have hai : ai < n := by omega
  have hbi : bi < n := by omega
  have hci : ci < n := by omega
  have hv' := Lib.hid hv
  have hk' := Lib.hid hk
  have hNR := Lib.hid hv.ranges
  obtain ⟨p, hp⟩ : ∃ p, p = opT 7 3 (sortsA ⟨n, N, 0⟩ (pk3' ai bi ci)) := ⟨_, rfl⟩
  have hSo := Lib.hid (fun h => IteMR.sort (most := most) (s := ⟨n, N, 0⟩) (a := (ai : Int)) (b := (bi : Int)) (c := (ci : Int)) rfl h)
  have hOn := Lib.hid (fun hs h => IteMR.one (most := most) (s := ⟨n, N, 0⟩) (a := (ai : Int)) (b := (bi : Int)) (c := (ci : Int)) rfl hs h)
  have hPt := Lib.hid (fun hs hb s1 i hi s2 h2 s3 h3 => IteMR.put (most := most) (s := ⟨n, N, 0⟩) (a := (ai : Int)) (b := (bi : Int)) (c := (ci : Int)) rfl hs hb s1 i hi s2 h2 s3 h3)
  rw [← hp] at hSo hOn hPt
  have hso : Hid (∀ s1 i, PutOpR most ⟨n, N, 0⟩ 7 3 (pk3' ai bi ci) s1 i → s1.e = 0 → p.2 = 0 → (s1.N i.toNat).sort = (N bi).sort ∧ 0 ≤ i ∧ i < s1.n) := fun s1 i h he h2 => by
    obtain ⟨h3, h4, h5⟩ := h.so he
    refine ⟨?_, h4, h5⟩
    rw [hp] at h2
    rw [h3, ite_of h2, sorts_three]
    rfl
  rw [sorts_three] at hp
  simp only [Int.toNat_natCast] at hPt hp
  obtain ⟨TA, tc, rfl, -, -, hnd⟩ := hv
  obtain ⟨tb, to_, rfl, htb, hnd⟩ := hnd (by omega)
  have hx1 := Lib.hid (TwoB.start w (some ⟨tb, to_, none⟩) n tc)
  have na := Lib.hid (hnd ai hai).2.2.2.2.2.1
  have nb := Lib.hid (hnd bi hbi).2.2.2.2.2.1
  have nc := Lib.hid (hnd ci hci).2.2.2.2.2.1
  have hsaR := (hNR.out ai hai).sort
  have hsbR := (hNR.out bi hbi).sort
  have hscR := (hNR.out ci hci).sort
  generalize hsa : (N ai).sort = sa at *
  generalize hsb : (N bi).sort = sb at *
  generalize hsc : (N ci).sort = sc at *
  have hRa : R64 (ai : Int) := nat_R hai (by omega)
  have hRb : R64 (bi : Int) := nat_R hbi (by omega)
  have hRc : R64 (ci : Int) := nat_R hci (by omega)
  have a0 : (0 : Int) ≤ (ai : Int) := by omega
  have a1 : (ai : Int) < (n : Int) := by omega
  have b0 : (0 : Int) ≤ (bi : Int) := by omega
  have b1 : (bi : Int) < (n : Int) := by omega
  have c0 : (0 : Int) ≤ (ci : Int) := by omega
  have c1 : (ci : Int) < (n : Int) := by omega
  clear ha hb hc hk hnd hsa hsb hsc
  go_enter Try.func76, Try.ntmps76
  go_upto_region 1 with fail
  generalize hW1 : (w.alloc (.cells #[.slice (some ⟨tb, to_, none⟩) n tc] 24)).alloc (.cells #[.slice none 0 0] 24) = w1 at *
  clear hW1
  have hbd : Below w1.heap.size w1 w1.drew := (Below.refl _ _).drew
  have hbA : Below w1.heap.size w1 (w1.alloc (.cells #[.int .i64 sa, .int .i64 sb, .int .i64 sc] 3)).drew := ((Below.refl _ _).alloc (Nat.le_refl _) _).drew
  have hTO := Lib.hid (RTOp_any 7 _ 3 (pk3' sa sb sc) _ ⟨by decide, by decide⟩ ((ints_three w1 sa sb sc hsaR hsbR hscR).below (Below.refl _ _).drew))
  rw [← hp] at hTO
  unfold opV at hTO
  have hKp : ∀ {x : World}, Below w1.heap.size w1 x → (x.cell? ⟨w.heap.size, 0, none⟩ = some (.slice (some ⟨tb, to_, none⟩) n tc) ∧ x.cell? ⟨tb, to_ + ai * 8 + 5, none⟩ = some (.int .i64 sa) ∧ x.cell? ⟨tb, to_ + bi * 8 + 5, none⟩ = some (.int .i64 sb) ∧ x.cell? ⟨tb, to_ + ci * 8 + 5, none⟩ = some (.int .i64 sc)) := fun {x} hb => by
    have h := (hx1.out.step hb)
    exact ⟨h.t, (h.bel.cell (p := ⟨tb, to_ + ai * 8 + 5, none⟩) htb).trans na.out, (h.bel.cell (p := ⟨tb, to_ + bi * 8 + 5, none⟩) htb).trans nb.out, (h.bel.cell (p := ⟨tb, to_ + ci * 8 + 5, none⟩) htb).trans nc.out⟩
  clear na nb nc hp hsaR hsbR hscR
  go_region_held3 (fun x => x.cell? ⟨w.heap.size, 0, none⟩ = some (.slice (some ⟨tb, to_, none⟩) n tc) ∧ x.cell? ⟨tb, to_ + ai * 8 + 5, none⟩ = some (.int .i64 sa) ∧ x.cell? ⟨tb, to_ + bi * 8 + 5, none⟩ = some (.int .i64 sb) ∧ x.cell? ⟨tb, to_ + ci * 8 + 5, none⟩ = some (.int .i64 sc))
    (first | exact hKp hbd | exact hKp hbA | exact hKp hb5 | fail)
    (first | (go_at_call 48; (with_reducible refine hTO.out.mono ?_); rintro e w5 ⟨rfl, hb5⟩; replace hb5 := hbA.trans (hb5.mono hbA.size)) | fail)
  have hx5 := Lib.hid (hx1.out.step hb5)
  have hN5 := Lib.hid (hv'.out.below hx5.out.bel)
  have r5 := hx5.out.r
  have q5 := hx5.out.t
  have f5 := hx5.out.fr
  have z5 := hx5.out.ft
  clear hbd hbA hKp hTO hx1 hb5
  by_cases h0 : p.2 = 0
  case neg =>
    have d2 : (p.2 != 0) = true := by simpa using h0
    have hR := Lib.hid (hSo.out h0)
    clear h0 hSo hOn hPt hso
    go_wp2_with fail
    refine bodyPost_ret (results_tab2 rfl _ _ (w.heap.size + 1) (.slice none 0 0) rfl (hx5.out.set1 _).r) rfl ?_
    exact RfPost.bad (s' := ⟨n, N, 33⟩) hx5.out hR.out (show (33 : Int) ≠ 0 by decide) 0
  have d2 : (p.2 != 0) = false := by rw [h0]; rfl
  have h0' := Lib.hid h0
  clear h0 hSo
  by_cases hbc : (bi : Int) = (ci : Int)
  · have d3 : ((bi : Int) == (ci : Int)) = true := by simpa using hbc
    have hR := Lib.hid (hOn.out h0'.out hbc)
    clear hbc hOn hPt hso
    go_wp2_with fail
    refine bodyPost_ret (results_tab2 rfl _ _ (w.heap.size + 1) (.slice (some ⟨tb, to_, none⟩) n tc) rfl (hx5.out.set1 _).r) rfl ?_
    exact RfPost.fin (s' := ⟨n, N, 0⟩) hx5.out hR.out (fun _ => rfl) hN5.out
  have d3 : ((bi : Int) == (ci : Int)) = false := by simpa using hbc
  have hR := Lib.hid (hPt.out h0'.out hbc)
  have hx6 := Lib.hid (hx5.out.skip (.cells #[.int .i64 ai, .int .i64 bi, .int .i64 ci] 3))
  have hPu := Lib.hid (R12put_any _ n N 7 _ 3 (pk3' ai bi ci) most _ (hv'.out.below hx6.out.bel) (by omega) ⟨by decide, by decide⟩ (ints_three w5 ai bi ci hRa hRb hRc) ⟨by omega, by omega⟩ hm (fun k _ => by unfold pk3'; split; exact ⟨a0, a1⟩; split; exact ⟨b0, b1⟩; exact ⟨c0, c1⟩))
  clear hbc hOn hPt
  go_wp2_with fail
  refine hPu.out.mono ?_
  rintro e w7 ⟨v7, ⟨m7, M7, e7⟩, x7, y7, rfl, hR7, hy7, hN7, hb7⟩
  have hR7' := Lib.hid hR7
  have hx7 := Lib.hid (hx6.out.step hb7)
  have hy7' := Lib.hid hy7
  obtain ⟨k7, hk7⟩ : ∃ k7, k7 = tabN ⟨m7, M7, e7⟩ := ⟨_, rfl⟩
  rw [← hk7] at hN7
  have hk7' := Lib.hid hk7
  have hN7' := Lib.hid hN7
  obtain ⟨A7, cp7, rfl, -, -, -⟩ := hN7
  clear hR7 hb7 hPu hx5 hx6 r5 q5 f5 z5 hN5 hk7 hy7
  have f7 := hx7.out.ft
  have p7 := hx7.out.t
  have hx8 := Lib.hid (hx7.out.set0 (.slice A7 k7 cp7))
  have hN8 := Lib.hid (hN7'.out.setBox p7 (fun _ _ h => by cases h) (.slice A7 k7 cp7))
  go_upto_region 7 with fail
  generalize hW8 : w7.setCell ⟨w.heap.size, 0, none⟩ (.slice A7 k7 cp7) = w8 at *
  clear hx7 hN7' hW8 f7 p7
  have r8 := hx8.out.r
  have f8 := hx8.out.fr
  have q8 := hx8.out.t
  have z8 := hx8.out.ft
  by_cases he : e7 = 0
  case neg =>
    have d4 : (e7 != 0) = true := by simpa using he
    have hRR := Lib.hid (hR.out ⟨m7, M7, e7⟩ x7 hR7'.out ⟨m7, M7, e7⟩ (BehindR.idle he _ _) ⟨m7, M7, e7⟩ (BehindR.idle he _ _))
    have he' := Lib.hid he
    clear he hR hso
    go_wp2_with fail
    refine bodyPost_ret (results_tab2 rfl _ _ (w.heap.size + 1) (.slice none 0 0) rfl (hx8.out.set1 _).r) rfl ?_
    exact RfPost.bad (s' := ⟨m7, M7, e7⟩) hx8.out hRR.out he'.out 0
  subst he
  obtain rfl : y7 = x7 := hy7'.out rfl
  obtain rfl : k7 = m7 := hk7'.out
  obtain ⟨hst, x0, x1⟩ := hso.out _ _ hR7'.out rfl h0'.out
  dsimp only at hst x1
  have hg := Lib.hid (hR7'.out.grow hk'.out)
  obtain ⟨xi, rfl⟩ : ∃ i : Nat, y7 = i := ⟨y7.toNat, by omega⟩
  rw [Int.toNat_natCast] at hst
  have hxi : xi < k7 := by omega
  have hmo : n ≤ k7 := hg.out.st.more
  have hsz : k7 ≤ n + 1 := hg.out.st.size
  obtain ⟨_, _, e1, -, -, hnd⟩ := hN8.out
  injection e1 with e1 _ e3
  subst e1; subst e3
  obtain ⟨sb7, so7, rfl, -, hnd⟩ := hnd (by omega)
  have n5 := (hnd xi hxi).2.2.2.2.2.1
  rw [hst] at n5
  have hst' := Lib.hid hst
  clear hso hk7' hy7' hnd hst
  by_cases hs0 : sb = 0
  · have d5 : (sb == 0) = true := by simpa using hs0
    have hRR := Lib.hid (hR.out ⟨k7, M7, 0⟩ xi hR7'.out ⟨k7, M7, 0⟩ (.bool hs0) ⟨k7, M7, 0⟩ (.bool hs0))
    clear hs0 hR
    go_wp2_with fail
    refine bodyPost_ret (results_tab2 rfl _ _ (w.heap.size + 1) (.slice (some ⟨sb7, so7, none⟩) k7 cp7) rfl (hx8.out.set1 _).r) rfl ?_
    exact RfPost.fin (s' := ⟨k7, M7, 0⟩) hx8.out hRR.out (fun _ => rfl) hN8.out
  have d5 : (sb == 0) = false := by simpa using hs0
  have hB1 := Lib.hid (R12behind_any _ k7 M7 xi bi most w8 hN8.out (by omega) hg.out.st.chk ⟨x0, x1⟩ ⟨b0, by omega⟩ (by rw [Int.toNat_natCast, hst'.out]; exact hs0) hm)
  rw [Int.toNat_natCast, hst'.out] at hB1
  have hs0' := Lib.hid hs0
  clear hs0
  go_wp2_with fail
  refine hB1.out.mono ?_
  rintro e w9 ⟨v9, ⟨m9, M9, e9⟩, rfl, hR9, hN9, hb9⟩
  have hR9' := Lib.hid hR9
  have hx9 := Lib.hid (hx8.out.step hb9)
  obtain ⟨k9, hk9⟩ : ∃ k9, k9 = tabN ⟨m9, M9, e9⟩ := ⟨_, rfl⟩
  rw [← hk9] at hN9
  have hk9' := Lib.hid hk9
  have hN9' := Lib.hid hN9
  obtain ⟨A9, cp9, rfl, -, -, -⟩ := hN9
  clear hR9 hb9 hB1 hx8 hN8 r8 q8 f8 z8 n5 hk9
  have f9 := hx9.out.ft
  have p9 := hx9.out.t
  have hx10 := Lib.hid (hx9.out.set0 (.slice A9 k9 cp9))
  have hN10 := Lib.hid (hN9'.out.setBox p9 (fun _ _ h => by cases h) (.slice A9 k9 cp9))
  go_upto_region 12 with fail
  generalize hW10 : w9.setCell ⟨w.heap.size, 0, none⟩ (.slice A9 k9 cp9) = w10 at *
  clear hx9 hN9' hW10 f9 p9
  have r10 := hx10.out.r
  have f10 := hx10.out.fr
  have q10 := hx10.out.t
  have z10 := hx10.out.ft
  by_cases he : e9 = 0
  case neg =>
    have d6 : (e9 != 0) = true := by simpa using he
    have hRR := Lib.hid (hR.out ⟨k7, M7, 0⟩ xi hR7'.out ⟨m9, M9, e9⟩ hR9'.out ⟨m9, M9, e9⟩ (BehindR.idle he _ _))
    have he' := Lib.hid he
    clear he hR
    go_wp2_with fail
    refine bodyPost_ret (results_tab2 rfl _ _ (w.heap.size + 1) (.slice none 0 0) rfl (hx10.out.set1 _).r) rfl ?_
    exact RfPost.bad (s' := ⟨m9, M9, e9⟩) hx10.out hRR.out he'.out 0
  subst he
  obtain rfl : k9 = m9 := hk9'.out
  have hg9 := Lib.hid (hR9'.out.grow hg.out.st.chk)
  have hmo9 : k7 ≤ k9 := hg9.out.more
  have hsz9 : k9 ≤ k7 + 2 := hg9.out.size
  have hst9 : Hid ((M9 xi).sort = sb) := by
    have h : M9 xi = M7 xi := hg9.out.old xi hxi
    unfold Hid
    rw [h]; exact hst'.out
  have hB2 := Lib.hid (R12behind_any _ k9 M9 xi ci most w10 hN10.out (by omega) hg9.out.chk ⟨x0, by omega⟩ ⟨c0, by omega⟩ (by rw [Int.toNat_natCast, hst9.out]; exact hs0'.out) hm)
  rw [Int.toNat_natCast, hst9.out] at hB2
  have hRR := Lib.hid (hR.out ⟨k7, M7, 0⟩ xi hR7'.out ⟨k9, M9, 0⟩ hR9'.out)
  clear hk9' hR hR7' hR9'
  go_wp2_with fail
  refine hB2.out.mono ?_
  rintro e w11 ⟨v11, ⟨m11, M11, e11⟩, rfl, hR11, hN11, hb11⟩
  have hR11' := Lib.hid (hRR.out _ hR11)
  have hx11 := Lib.hid (hx10.out.step hb11)
  obtain ⟨k11, hk11⟩ : ∃ k11, k11 = tabN ⟨m11, M11, e11⟩ := ⟨_, rfl⟩
  rw [← hk11] at hN11
  have hk11' := Lib.hid hk11
  have hN11' := Lib.hid hN11
  obtain ⟨A11, cp11, rfl, -, -, -⟩ := hN11
  clear hR11 hb11 hB2 hx10 hN10 r10 q10 f10 z10 hk11 hRR
  have f11 := hx11.out.ft
  have p11 := hx11.out.t
  have hx12 := Lib.hid (hx11.out.set0 (.slice A11 k11 cp11))
  have hN12 := Lib.hid (hN11'.out.setBox p11 (fun _ _ h => by cases h) (.slice A11 k11 cp11))
  go_upto_region 15 with fail
  generalize hW12 : w11.setCell ⟨w.heap.size, 0, none⟩ (.slice A11 k11 cp11) = w12 at *
  clear hx11 hN11' hW12 f11 p11
  have r12 := hx12.out.r
  have f12 := hx12.out.fr
  have q12 := hx12.out.t
  by_cases he : e11 = 0
  case neg =>
    have d7 : (e11 != 0) = true := by simpa using he
    have he' := Lib.hid he
    clear he
    go_wp2_with fail
    refine bodyPost_ret (results_tab2 rfl _ _ (w.heap.size + 1) (.slice none 0 0) rfl (hx12.out.set1 _).r) rfl ?_
    exact RfPost.bad (s' := ⟨m11, M11, e11⟩) hx12.out hR11'.out he'.out 0
  subst he
  obtain rfl : k11 = m11 := hk11'.out
  clear hk11'
  go_wp2_with fail
  refine bodyPost_ret (results_tab2 rfl _ _ (w.heap.size + 1) (.slice A11 k11 cp11) rfl (hx12.out.set1 _).r) rfl ?_
  exact RfPost.fin (s' := ⟨k11, M11, 0⟩) hx12.out hR11'.out (fun _ => rfl) hN12.out
end Go.Proofs.Ytecmoahadckomaa
