/- gantryref12.equal. -/
import Derived.Test.YtecmoahadckomaaZR12AR12B
import Derived.Test.YtecmoahadckomaaZMkWMkP
namespace Go.Proofs.Ytecmoahadckomaa
open Go.RowKit Go.Maps
set_option maxRecDepth 100000

theorem keptS_e (s : CSt) (m : Nat) (M : Nat → Nd) (er : Int) : (keptS s m M er).e = er := by
  by_cases h : er = 0
  · subst h; rw [keptS_ok]
  · rw [keptS_no h]
theorem LeT.place {n : Nat} {N : Nat → Nd} (hk : CheckP n N) {a b c most : Int} {m : Nat} {M : Nat → Nd} {x : Int} {is : Bool} (h : LeT n N a b c most m M x is 0) : (n ≤ m ∧ m ≤ n + 1) ∧ CheckP m M ∧ 0 ≤ x ∧ x < m ∧ ∀ i, i < n → M i = N i := by
  obtain ⟨h1, h2, h3, h4, h5⟩ := (h.grow hk).ok rfl
  exact ⟨h1, h3, h4, h5, h2⟩
set_option maxHeartbeats 16000000 in
theorem R12equal_any (v : Value) (n : Nat) (N : Nat → Nd) (a b most : Int) (w : World) (hv : NdsAt w v n N) (hn : n ≤ 800000) (hk : CheckP n N) (ha : 0 ≤ a ∧ a < n) (hb : 0 ≤ b ∧ b < n) (hm : R64 most) :
    Calls Try.prog 75 #[.agg #[v], .int .i64 a, .int .i64 b, .int .i64 most] w (RfPost (EqualMR most ⟨n, N, 0⟩ a b) w) := by
  obtain ⟨i, rfl⟩ : ∃ i : Nat, a = i := ⟨a.toNat, by omega⟩
  obtain ⟨j, rfl⟩ : ∃ j : Nat, b = j := ⟨b.toNat, by omega⟩
  have hi : i < n := by omega
  have hj : j < n := by omega
  have hv' := Lib.hid hv
  have hk' := Lib.hid hk
  have hSo := Lib.hid (fun h => EqualMR.sort (most := most) (s := ⟨n, N, 0⟩) (a := (i : Int)) (b := (j : Int)) rfl h)
  have hBo := Lib.hid (fun hs h0 s' x hp => EqualMR.bool (most := most) (s := ⟨n, N, 0⟩) (a := (i : Int)) (b := (j : Int)) rfl hs h0 s' x hp)
  have hOw := Lib.hid (fun hs h0 h1 s' x hp => EqualMR.own (most := most) (s := ⟨n, N, 0⟩) (a := (i : Int)) (b := (j : Int)) rfl hs h0 h1 s' x hp)
  have hIn := Lib.hid (fun hs h1 s1 x hx s2 y hy s' z hp => EqualMR.int (most := most) (s := ⟨n, N, 0⟩) (a := (i : Int)) (b := (j : Int)) rfl hs h1 s1 x hx s2 y hy s' z hp)
  simp only [Int.toNat_natCast] at hSo hBo hOw hIn
  obtain ⟨TA, c, rfl, -, -, hnd⟩ := hv
  obtain ⟨tb, to_, rfl, htb, hnd⟩ := hnd (by omega)
  have hx1 := Lib.hid (TwoB.start w (some ⟨tb, to_, none⟩) n c)
  have hni := Lib.hid (hnd i hi).2.2.2.2.2.1
  have hnj := Lib.hid (hnd j hj).2.2.2.2.2.1
  have i0 : (0 : Int) ≤ (i : Int) := by omega
  have i1 : (i : Int) < (n : Int) := by omega
  have j0 : (0 : Int) ≤ (j : Int) := by omega
  have j1 : (j : Int) < (n : Int) := by omega
  have hRi : R64 (i : Int) := nat_R hi (by omega)
  have hRj : R64 (j : Int) := nat_R hj (by omega)
  clear ha hb hk hnd
  go_enter Try.func75, Try.ntmps75
  go_upto_region 1 with fail
  generalize hW1 : (w.alloc (.cells #[.slice (some ⟨tb, to_, none⟩) n c] 24)).alloc (.cells #[.slice none 0 0] 24) = w1 at *
  clear hW1
  have r1 := hx1.out.r
  have q1 := hx1.out.t
  have f1 := hx1.out.fr
  have ti := (hx1.out.bel.cell (p := ⟨tb, to_ + i * 8 + 5, none⟩) htb).trans hni.out
  have tj := (hx1.out.bel.cell (p := ⟨tb, to_ + j * 8 + 5, none⟩) htb).trans hnj.out
  have hv1 := Lib.hid (hv'.out.below hx1.out.bel)
  generalize hsi : (N i).sort = si at *
  generalize hsj : (N j).sort = sj at *
  clear hsi hsj hni hnj
  by_cases hs : si = sj
  case neg =>
    have ds : (si != sj) = true := by simpa using hs
    have hR := Lib.hid (hSo.out hs)
    clear hs hSo hBo hOw hIn
    go_wp2_with fail
    refine bodyPost_ret (results_tab2 rfl _ _ (w.heap.size + 1) (.slice none 0 0) rfl (hx1.out.set1 _).r) rfl ?_
    exact RfPost.bad (s' := ⟨n, N, 33⟩) hx1.out hR.out (show (33 : Int) ≠ 0 by decide) 0
  have ds : (si != sj) = false := by simpa using hs
  by_cases h0 : si = 0
  · have d0 : (si == 0) = true := by simpa using h0
    have hR := Lib.hid (hBo.out hs h0)
    have hx2 := Lib.hid (hx1.out.skip (.cells #[.int .i64 i, .int .i64 j] 3))
    have hPu := Lib.hid (R12put_any _ n N 6 _ 2 (pk2 i j) most _ (hv'.out.below hx2.out.bel) (by omega) ⟨by decide, by decide⟩ (ints_pair w1 i j hRi hRj) ⟨by omega, by omega⟩ hm (fun k _ => by unfold pk2; split <;> omega))
    clear hs h0 hSo hBo hOw hIn
    go_wp2_with fail
    refine hPu.out.mono ?_
    rintro e w3 ⟨v3, s3, x3, y3, rfl, hR3, hy3, hN3, hb3⟩
    have hx3 := Lib.hid (hx2.out.step hb3)
    have r3 := hx3.out.r
    have f3 := hx3.out.fr
    have hN3' := Lib.hid hN3
    have hR3' := Lib.hid (hR.out _ _ hR3)
    have hy3' := Lib.hid hy3
    obtain ⟨A3, c3, rfl, -, -, -⟩ := hN3
    clear hR3 hy3 hb3 hx2 hx1 hPu hR r1 q1 f1 ti tj
    go_wp2_with fail
    refine bodyPost_ret (results_tab2 rfl _ _ (w.heap.size + 1) (.slice A3 (tabN s3) c3) rfl (hx3.out.set1 _).r) rfl ?_
    exact RfPost.fin hx3.out hR3'.out hy3'.out hN3'.out
  have d0 : (si == 0) = false := by simpa using h0
  by_cases h1 : si = 1
  case neg =>
    have d1 : (si != 1) = true := by simpa using h1
    have hR := Lib.hid (hOw.out hs h0 h1)
    have hPu := Lib.hid (R12same_any _ n N i j most _ hv1.out (by omega) ⟨i0, i1⟩ ⟨j0, j1⟩ hm)
    clear hs h0 h1 hSo hBo hOw hIn
    go_wp2_with fail
    refine hPu.out.mono ?_
    rintro e w3 ⟨v3, s3, x3, y3, rfl, hR3, hy3, hN3, hb3⟩
    have hx3 := Lib.hid (hx1.out.step hb3)
    have r3 := hx3.out.r
    have f3 := hx3.out.fr
    have hN3' := Lib.hid hN3
    have hR3' := Lib.hid (hR.out _ _ hR3)
    have hy3' := Lib.hid hy3
    obtain ⟨A3, c3, rfl, -, -, -⟩ := hN3
    clear hR3 hy3 hb3 hx1 hPu hR r1 q1 f1 ti tj
    go_wp2_with fail
    refine bodyPost_ret (results_tab2 rfl _ _ (w.heap.size + 1) (.slice A3 (tabN s3) c3) rfl (hx3.out.set1 _).r) rfl ?_
    exact RfPost.fin hx3.out hR3'.out hy3'.out hN3'.out
  have d1 : (si != 1) = false := by simpa using h1
  have hR := Lib.hid (hIn.out hs h1)
  have hL := Lib.hid (R11Le_any _ n N i j 0 most _ hv1.out (by omega) hRi hRj R64_0 hm)
  clear hs h0 h1 hSo hBo hOw hIn
  go_wp2_with fail
  refine hL.out.mono ?_
  rintro e w2 ⟨v2, m2, M2, x2, is2, e2, rfl, hR2, hN2, hb2⟩
  have hR2' := Lib.hid hR2
  have hx2 := Lib.hid (hx1.out.step hb2)
  have hN2' := Lib.hid hN2
  obtain ⟨A2, c2, rfl, -, -, -⟩ := hN2
  clear hR2 hb2 hL hx1 r1 q1 f1 ti tj hv1
  have f2 := hx2.out.ft
  have k2 := hx2.out.t
  have hx3 := Lib.hid (hx2.out.set0 (.slice A2 m2 c2))
  have hN3 := Lib.hid (hN2'.out.setBox k2 (fun _ _ h => by cases h) (.slice A2 m2 c2))
  go_upto_region 9 with fail
  generalize hW3 : w2.setCell ⟨w.heap.size, 0, none⟩ (.slice A2 m2 c2) = w3 at *
  clear f2 k2 hx2 hN2' hW3
  have r3 := hx3.out.r
  have f3 := hx3.out.fr
  have q3 := hx3.out.t
  by_cases he : e2 = 0
  case neg =>
    have d2 : (e2 != 0) = true := by simpa using he
    have hRR := Lib.hid (hR.out (keptS ⟨n, N, 0⟩ m2 M2 e2) x2 (.put rfl m2 M2 x2 is2 e2 hR2'.out) (keptS ⟨n, N, 0⟩ m2 M2 e2) 0 (.err (by rw [keptS_e]; exact he)) (keptS ⟨n, N, 0⟩ m2 M2 e2) 0 (.err (by rw [keptS_e]; exact he)))
    rw [keptS_no he] at hRR
    have he' := Lib.hid he
    clear he hR hR2'
    go_wp2_with fail
    refine bodyPost_ret (results_tab2 rfl _ _ (w.heap.size + 1) (.slice none 0 0) rfl (hx3.out.set1 _).r) rfl ?_
    exact RfPost.bad (s' := ⟨n, N, e2⟩) hx3.out hRR.out he'.out 0
  subst he
  obtain ⟨⟨m0, m1⟩, hk2, x0, x1, -⟩ := hR2'.out.place hk'.out
  have hk2' := Lib.hid hk2
  have hR1 := Lib.hid (hR.out ⟨m2, M2, 0⟩ x2 (by have := DiffMR.put (most := most) (s := ⟨n, N, 0⟩) rfl m2 M2 x2 is2 0 hR2'.out; rwa [keptS_ok] at this))
  have hL := Lib.hid (R11Le_any _ m2 M2 j i 0 most _ hN3.out (by omega) hRj hRi R64_0 hm)
  have x0' := Lib.hid x0
  have x1' := Lib.hid x1
  clear hk2 hR hR2' hk' x0 x1
  go_wp2_with fail
  refine hL.out.mono ?_
  rintro e w4 ⟨v4, m4, M4, x4, is4, e4, rfl, hR4, hN4, hb4⟩
  have hR4' := Lib.hid hR4
  have hx4 := Lib.hid (hx3.out.step hb4)
  have hN4' := Lib.hid hN4
  obtain ⟨A4, c4, rfl, -, -, -⟩ := hN4
  clear hR4 hb4 hL hx3 r3 f3 q3 hN3
  have f4 := hx4.out.ft
  have k4 := hx4.out.t
  have hx5 := Lib.hid (hx4.out.set0 (.slice A4 m4 c4))
  have hN5 := Lib.hid (hN4'.out.setBox k4 (fun _ _ h => by cases h) (.slice A4 m4 c4))
  go_upto_region 12 with fail
  generalize hW5 : w4.setCell ⟨w.heap.size, 0, none⟩ (.slice A4 m4 c4) = w5 at *
  clear f4 k4 hx4 hN4' hW5
  have r5 := hx5.out.r
  have f5 := hx5.out.fr
  have q5 := hx5.out.t
  by_cases he : e4 = 0
  case neg =>
    have d2 : (e4 != 0) = true := by simpa using he
    have hRR := Lib.hid (hR1.out (keptS ⟨m2, M2, 0⟩ m4 M4 e4) x4 (.put rfl m4 M4 x4 is4 e4 hR4'.out) (keptS ⟨m2, M2, 0⟩ m4 M4 e4) 0 (.err (by rw [keptS_e]; exact he)))
    rw [keptS_no he] at hRR
    have he' := Lib.hid he
    clear he hR1 hR4'
    go_wp2_with fail
    refine bodyPost_ret (results_tab2 rfl _ _ (w.heap.size + 1) (.slice none 0 0) rfl (hx5.out.set1 _).r) rfl ?_
    exact RfPost.bad (s' := ⟨m2, M2, e4⟩) hx5.out hRR.out he'.out 0
  subst he
  obtain ⟨⟨p0, p1⟩, -, y0, y1, -⟩ := hR4'.out.place hk2'.out
  have hR2 := Lib.hid (hR1.out ⟨m4, M4, 0⟩ x4 (by have := DiffMR.put (most := most) (s := ⟨m2, M2, 0⟩) rfl m4 M4 x4 is4 0 hR4'.out; rwa [keptS_ok] at this))
  have hx6 := Lib.hid (hx5.out.skip (.cells #[.int .i64 x2, .int .i64 x4] 3))
  have hRx : R64 x2 := by have := x0'.out; have := x1'.out; unfold R64; omega
  have hRy : R64 x4 := by unfold R64; omega
  have hPu := Lib.hid (R12put_any _ m4 M4 2 _ 2 (pk2 x2 x4) most _ (hN5.out.below ((Below.refl w5.heap.size w5).alloc (Nat.le_refl _) (.cells #[.int .i64 x2, .int .i64 x4] 3))) (by omega) ⟨by decide, by decide⟩ (ints_pair w5 x2 x4 hRx hRy) ⟨by omega, by omega⟩ hm (fun k _ => by have := x0'.out; have := x1'.out; unfold pk2; split <;> omega))
  clear hR1 hR4' hk2' y0 y1 hRx hRy
  go_wp2_with fail
  refine hPu.out.mono ?_
  rintro e w7 ⟨v7, s7, x7, y7, rfl, hR7, hy7, hN7, hb7⟩
  have hx7 := Lib.hid (hx6.out.step hb7)
  have r7 := hx7.out.r
  have f7 := hx7.out.fr
  have hN7' := Lib.hid hN7
  have hR7' := Lib.hid (hR2.out _ _ hR7)
  have hy7' := Lib.hid hy7
  obtain ⟨A7, c7, rfl, -, -, -⟩ := hN7
  clear hR7 hy7 hb7 hx6 hx5 hPu hR2 r5 q5 f5
  go_wp2_with fail
  refine bodyPost_ret (results_tab2 rfl _ _ (w.heap.size + 1) (.slice A7 (tabN s7) c7) rfl (hx7.out.set1 _).r) rfl ?_
  exact RfPost.fin hx7.out hR7'.out hy7'.out hN7'.out
end Go.Proofs.Ytecmoahadckomaa

namespace Go.Proofs.Ytecmoahadckomaa
open Go.RowKit Go.Maps
set_option maxRecDepth 100000

/-- What behind hands back. -/
def BfPost (R : CSt → Prop) (w : World) (z : Ending) (w' : World) : Prop :=
  ∃ v' s', z = .returned (.tuple #[.agg #[v'], .int .i64 s'.e]) ∧ R s' ∧ NdsAt w' v' (tabN s') s'.N ∧ Below w.heap.size w w'
theorem results_tabE {fn : Func} {p u : Tmp} (h : fn.results = #[.cell p 24, .tmp u]) (tmps : Array Value) (w : World) (g : Nat) (v : Value)
    (hp : tmps.getD p undef = .pointer (some ⟨g, 0, none⟩)) (hc : w.cell? ⟨g, 0, none⟩ = some v) : (results fn tmps).run Try.prog w = .ok (.tuple #[.agg #[v], tmps.getD u undef]) w := by
  have hp' : tmps[p]?.getD undef = .pointer (some ⟨g, 0, none⟩) := by simpa using hp
  simp [results, h, hp', asAddr, run_loadTab w g v hc, Result.andThen]
section
variable {R : CSt → Prop} {w x : World} {A A0 : Option Addr} {c n0 c0 : Nat} {s' : CSt} {v : Value}
theorem BfPost.fin (h : TwoB w (.slice A0 n0 c0) v x) (hR : R s') (hN : NdsAt x (.slice A (tabN s') c) (tabN s') s'.N) :
    BfPost R w (.returned (.tuple #[.agg #[.slice A (tabN s') c], .int .i64 s'.e])) (x.setCell ⟨w.heap.size + 1, 0, none⟩ (.slice A (tabN s') c)) :=
  ⟨_, s', rfl, hR, hN.setBox h.r (fun _ _ h => by cases h) _, (h.set1 _).bel⟩
theorem BfPost.bad (h : TwoB w (.slice A0 n0 c0) v x) (hR : R s') (he : s'.e ≠ 0) :
    BfPost R w (.returned (.tuple #[.agg #[.slice none 0 0], .int .i64 s'.e])) (x.setCell ⟨w.heap.size + 1, 0, none⟩ (.slice none 0 0)) :=
  ⟨_, s', rfl, hR, by rw [show tabN s' = 0 from if_neg he]; exact NdsAt.nil _ _, (h.set1 _).bel⟩
theorem TwoB.far {u : Value} (h : TwoB w u v x) {g : Nat} (hg : w.heap.size + 1 < g) (u' : Value) : TwoB w u v (x.setCell ⟨g, 0, none⟩ u') :=
  ⟨(World.cell?_setCell_far _ _ _ _ (by show g ≠ w.heap.size + 1; omega)).trans h.r, (World.cell?_setCell_far _ _ _ _ (by show g ≠ w.heap.size; omega)).trans h.t, by rw [World.frozen?_setCell]; exact h.fr, by rw [World.frozen?_setCell]; exact h.ft, h.bel.setCell (p := ⟨g, 0, none⟩) (by show _ ≤ g; omega) _, by simpa using h.lt⟩
end
theorem LeT.fails {n : Nat} {N : Nat → Nd} {a b c most : Int} {m : Nat} {M : Nat → Nd} {x er : Int} {is : Bool} (h : LeT n N a b c most m M x is er) (he : er ≠ 0) : m = 0 := by
  cases h with
  | err => rfl
  | tru => exact absurd rfl he
  | fls _ _ _ _ _ _ _ _ hp => exact hp.fails he
  | diff _ _ _ _ _ _ _ _ _ hp => exact hp.fails he
theorem BehindR.idle {most so : Int} {s : CSt} (he : s.e ≠ 0) (i x : Int) : BehindR most so s i x s := by
  by_cases h0 : so = 0
  · exact .bool h0
  · by_cases h1 : so = 1
    · exact .int h1 s 0 (.err he) s 0 (.err he)
    · by_cases hx : i = x
      · exact .own h0 h1 s 0 (.one hx)
      · exact .own h0 h1 s 0 (.put hx s 0 (.err he))
set_option maxHeartbeats 16000000 in
theorem R12behind_any (v : Value) (n : Nat) (N : Nat → Nd) (a b most : Int) (w : World) (hv : NdsAt w v n N) (hn : n ≤ 800000) (hk : CheckP n N) (ha : 0 ≤ a ∧ a < n) (hb : 0 ≤ b ∧ b < n) (hs0 : (N a.toNat).sort ≠ 0) (hm : R64 most) :
    Calls Try.prog 86 #[.agg #[v], .int .i64 a, .int .i64 b, .int .i64 most] w (BfPost (BehindR most (N a.toNat).sort ⟨n, N, 0⟩ a b) w) := by
  obtain ⟨i, rfl⟩ : ∃ i : Nat, a = i := ⟨a.toNat, by omega⟩
  rw [Int.toNat_natCast] at hs0 ⊢
  have hi : i < n := by omega
  have hv' := Lib.hid hv
  have hk' := Lib.hid hk
  have hIn := Lib.hid (fun h1 s1 x hx s2 y hy => BehindR.int (most := most) (so := (N i).sort) (s := ⟨n, N, 0⟩) (i := (i : Int)) (x := b) h1 s1 x hx s2 y hy)
  have hOw := Lib.hid (fun h1 s' y hy => BehindR.own (most := most) (so := (N i).sort) (s := ⟨n, N, 0⟩) (i := (i : Int)) (x := b) hs0 h1 s' y hy)
  obtain ⟨TA, c, rfl, -, -, hnd⟩ := hv
  obtain ⟨tb, to_, rfl, htb, hnd⟩ := hnd (by omega)
  have hx1 := Lib.hid (TwoB.start w (some ⟨tb, to_, none⟩) n c)
  have hni := Lib.hid (hnd i hi).2.2.2.2.2.1
  have i0 : (0 : Int) ≤ (i : Int) := by omega
  have i1 : (i : Int) < (n : Int) := by omega
  have hRi : R64 (i : Int) := nat_R hi (by omega)
  have hRb : R64 b := by unfold R64; omega
  have hb' := Lib.hid hb
  clear ha hb hk hnd hs0
  go_enter Try.func86, Try.ntmps86
  go_upto_region 1 with fail
  generalize hW1 : (w.alloc (.cells #[.slice (some ⟨tb, to_, none⟩) n c] 24)).alloc (.cells #[.slice none 0 0] 24) = w1 at *
  clear hW1
  have r1 := hx1.out.r
  have q1 := hx1.out.t
  have f1 := hx1.out.fr
  have ti := (hx1.out.bel.cell (p := ⟨tb, to_ + i * 8 + 5, none⟩) htb).trans hni.out
  have hv1 := Lib.hid (hv'.out.below hx1.out.bel)
  generalize hsi : (N i).sort = si at *
  clear hsi hni
  by_cases h1 : si = 1
  case neg =>
    have d1 : (si == 1) = false := by simpa using h1
    have hR := Lib.hid (hOw.out h1)
    have hPu := Lib.hid (R12same_any _ n N i b most _ hv1.out (by omega) ⟨i0, i1⟩ hb'.out hm)
    clear h1 hOw hIn
    go_wp2_with fail
    refine hPu.out.mono ?_
    rintro e w2 ⟨v2, s2, x2, y2, rfl, hR2, -, hN2, hb2⟩
    have hx2 := Lib.hid (hx1.out.step hb2)
    have hN2' := Lib.hid hN2
    have hR2' := Lib.hid (hR.out _ _ hR2)
    obtain ⟨A2, c2, rfl, -, -, -⟩ := hN2
    clear hR2 hb2 hx1 hPu hR r1 q1 f1 ti
    have f2 := hx2.out.ft
    have k2 := hx2.out.t
    have hx3 := Lib.hid (hx2.out.set0 (.slice A2 (tabN s2) c2))
    have hN3 := Lib.hid (hN2'.out.setBox k2 (fun _ _ h => by cases h) (.slice A2 (tabN s2) c2))
    go_upto_region 8 with fail
    generalize hW3 : w2.setCell ⟨w.heap.size, 0, none⟩ (.slice A2 (tabN s2) c2) = w3 at *
    clear f2 k2 hx2 hN2' hW3
    have r3 := hx3.out.r
    have f3 := hx3.out.fr
    have q3 := hx3.out.t
    go_wp2_with fail
    refine bodyPost_ret (results_tabE rfl _ _ (w.heap.size + 1) (.slice A2 (tabN s2) c2) rfl (hx3.out.set1 _).r) rfl ?_
    exact BfPost.fin hx3.out hR2'.out hN3.out
  have d1 : (si == 1) = true := by simpa using h1
  have hR := Lib.hid (hIn.out h1)
  have hL := Lib.hid (R11Le_any _ n N i b 0 most _ hv1.out (by omega) hRi hRb R64_0 hm)
  clear h1 hOw hIn
  go_wp2_with fail
  refine hL.out.mono ?_
  rintro e w2 ⟨v2, m2, M2, x2, is2, e2, rfl, hR2, hN2, hb2⟩
  have hR2' := Lib.hid hR2
  have hx2 := Lib.hid (hx1.out.step hb2)
  have hN2' := Lib.hid hN2
  obtain ⟨A2, c2, rfl, -, -, -⟩ := hN2
  have hx3 := Lib.hid (hx2.out.skip (.cells #[.slice A2 m2 c2] 24))
  have hN3 := Lib.hid (hN2'.out.alloc (.cells #[.slice A2 m2 c2] 24))
  have k3 : (w2.alloc (.cells #[.slice A2 m2 c2] 24)).cell? ⟨w2.heap.size, 0, none⟩ = some (.slice A2 m2 c2) := by simp
  have z3 : (w2.alloc (.cells #[.slice A2 m2 c2] 24)).frozen? ⟨w2.heap.size, 0, none⟩ = false := by simp
  have l3 : Hid (w2.heap.size < (w2.alloc (.cells #[.slice A2 m2 c2] 24)).heap.size) := by unfold Hid; simp
  have l2 : Hid (w.heap.size + 1 < w2.heap.size) := hx2.out.lt
  clear hR2 hb2 hL hx1 r1 q1 f1 ti hv1
  go_upto_region 3 with fail
  generalize hW3 : w2.alloc (.cells #[.slice A2 m2 c2] 24) = w3 at *
  clear hx2 hN2' hW3
  have r3 := hx3.out.r
  have f3 := hx3.out.fr
  by_cases he : e2 = 0
  case neg =>
    have d2 : (e2 != 0) = true := by simpa using he
    have hRR := Lib.hid (hR.out (keptS ⟨n, N, 0⟩ m2 M2 e2) x2 (.put rfl m2 M2 x2 is2 e2 hR2'.out) (keptS ⟨n, N, 0⟩ m2 M2 e2) 0 (.err (by rw [keptS_e]; exact he)))
    rw [keptS_no he] at hRR
    have he' := Lib.hid he
    clear he hR hR2'
    go_wp2_with fail
    refine bodyPost_ret (results_tabE rfl _ _ (w.heap.size + 1) (.slice none 0 0) rfl (hx3.out.set1 _).r) rfl ?_
    exact BfPost.bad (s' := ⟨n, N, e2⟩) hx3.out hRR.out he'.out
  subst he
  obtain ⟨⟨m0, m1⟩, hk2, -, -, -⟩ := hR2'.out.place hk'.out
  have hR1 := Lib.hid (hR.out ⟨m2, M2, 0⟩ x2 (by have := DiffMR.put (most := most) (s := ⟨n, N, 0⟩) rfl m2 M2 x2 is2 0 hR2'.out; rwa [keptS_ok] at this))
  have hL := Lib.hid (R11Le_any _ m2 M2 b i 0 most _ hN3.out (by omega) hRb hRi R64_0 hm)
  clear hk2 hR hR2' hk'
  go_wp2_with fail
  refine hL.out.mono ?_
  rintro e w4 ⟨v4, m4, M4, x4, is4, e4, rfl, hR4, hN4, hb4⟩
  have hR4' := Lib.hid (hR1.out _ _ (.put rfl m4 M4 x4 is4 e4 hR4))
  have hf4 := Lib.hid (fun h => hR4.fails h)
  have hx4 := Lib.hid (hx3.out.step hb4)
  have hN4' := Lib.hid hN4
  have k4 := (hb4.cell (p := ⟨w2.heap.size, 0, none⟩) l3.out).trans k3
  have z4 := (hb4.frozen (p := ⟨w2.heap.size, 0, none⟩) l3.out).trans z3
  obtain ⟨A4, c4, rfl, -, -, -⟩ := hN4
  clear hR4 hb4 hL hx3 r3 f3 k3 z3 hN3 hR1
  have hx5 := Lib.hid (hx4.out.far l2.out (.slice A4 m4 c4))
  have hN5 := Lib.hid (hN4'.out.setBox k4 (fun _ _ h => by cases h) (.slice A4 m4 c4))
  have k5 : (w4.setCell ⟨w2.heap.size, 0, none⟩ (.slice A4 m4 c4)).cell? ⟨w2.heap.size, 0, none⟩ = some (.slice A4 m4 c4) := World.cell?_setCell_same' _ _ _ (by rw [k4]; rfl)
  go_upto_region 6 with fail
  generalize hW5 : w4.setCell ⟨w2.heap.size, 0, none⟩ (.slice A4 m4 c4) = w5 at *
  clear k4 z4 hx4 hN4' hW5
  have r5 := hx5.out.r
  have f5 := hx5.out.fr
  go_wp2_with fail
  refine bodyPost_ret (results_tabE rfl _ _ (w.heap.size + 1) (.slice A4 m4 c4) rfl (hx5.out.set1 _).r) rfl ?_
  obtain ⟨he, hN6⟩ := kept_tab ⟨m2, M2, 0⟩ hf4.out hN5.out
  refine ⟨_, keptS ⟨m2, M2, 0⟩ m4 M4 e4, by rw [he]; rfl, hR4'.out, hN6.setBox r5 (fun _ _ h => by cases h) _, (hx5.out.set1 _).bel⟩
end Go.Proofs.Ytecmoahadckomaa
