/- gantryref12.put. -/
import Derived.Test.YtecmoahadckomaaZR11P
import Derived.Test.YtecmoahadckomaaZMkBMkC
import Derived.Test.YtecmoahadckomaaZAppR
import Derived.Test.YtecmoahadckomaaZTyWR6OpR6OpB
import Derived.Deep.RegionLawGrows
import Derived.Deep.RegionHeld3
namespace Go.Proofs.Ytecmoahadckomaa
open Go.RowKit Go.Maps
set_option maxRecDepth 100000

/-- How many nodes are handed back. -/
def tabN (s : CSt) : Nat := if s.e = 0 then s.n else 0
/-- What the document's put hands back: what a maker's would come to. -/
def RfPost (R : CSt → Int → Prop) (w : World) (z : Ending) (w' : World) : Prop :=
  ∃ v' s' x y, z = .returned (.tuple #[.agg #[v'], .int .i64 y, .int .i64 s'.e]) ∧ R s' x ∧ (s'.e = 0 → y = x) ∧ NdsAt w' v' (tabN s') s'.N ∧ Below w.heap.size w w'
structure PutJ (w : World) (tv : Value) (op : Int) (k : Nat) (A : Nat → Int) (j : Nat) (x : World) : Prop where
  bx : Bx w ((w.heap.size + 1, 0, .slice none 0 0) :: (w.heap.size, 0, tv) :: []) x
  nd : x.rowIs (w.heap.size + 2) 39 8 (nF op k A j)
  fz : x.frozen? ⟨w.heap.size + 1, 0, none⟩ = false
section
variable {w x y : World} {tv : Value} {op : Int} {k j : Nat} {A : Nat → Int}
theorem PutJ.step (h : PutJ w tv op k A j x) (hb : Below x.heap.size x y) : PutJ w tv op k A j y :=
  ⟨h.bx.step hb, h.nd.of_block (hb.block _ h.nd.lt), (hb.frozen (p := ⟨w.heap.size + 1, 0, none⟩) h.bx.cells.1.2).trans h.fz⟩
theorem PutJ.under (h : PutJ w tv op k A j x) {B : Nat} (hb : Below B x y) (hB : w.heap.size + 2 < B) : PutJ w tv op k A j y :=
  ⟨h.bx.under hb (fun a ha => by simp at ha; rcases ha with rfl | rfl <;> (show _ < B; simp; omega)) (by omega), h.nd.of_block (hb.block _ (by omega)), (hb.frozen (p := ⟨w.heap.size + 1, 0, none⟩) (by show w.heap.size + 1 < B; omega)).trans h.fz⟩
theorem PutJ.cell {i : Nat} {v : Value} (h : PutJ w tv op k A j x) (hi : i < 8) (e : nF op k A j i = v) : x.cell? ⟨w.heap.size + 2, i, none⟩ = some v := by rw [← e]; exact h.nd.cell hi
theorem PutJ.start (w : World) (B : Option Addr) (n c : Nat) (op : Int) (k : Nat) (A : Nat → Int) : PutJ w (.slice B n c) op k A 0 (((w.alloc (.cells #[.slice B n c] 24)).alloc (.cells #[.slice none 0 0] 24)).alloc (.cells #[.int .i8 op, .int .i8 k, .int .i64 0, .int .i64 0, .int .i64 0, .int .i64 0, .int .i64 0, .int .i64 0] 39)) := by
  refine ⟨(bx_two w B n c _ _).skip _, ?_, ?_⟩
  · have : w.heap.size + 2 = ((w.alloc (.cells #[.slice B n c] 24)).alloc (.cells #[.slice none 0 0] 24)).heap.size := by simp
    rw [this]
    refine World.rowIs_alloc _ _ _ _ fun i hi => ?_
    have hi : i < 8 := hi
    obtain rfl | rfl | rfl | rfl | rfl | rfl | rfl | rfl : i = 0 ∨ i = 1 ∨ i = 2 ∨ i = 3 ∨ i = 4 ∨ i = 5 ∨ i = 6 ∨ i = 7 := by omega
    all_goals rfl
  · exact (((Below.refl _ _).alloc (Nat.le_refl _) _).frozen (p := ⟨w.heap.size + 1, 0, none⟩) (by simp)).trans (frz_two w B n c _ _)
theorem PutJ.set (h : PutJ w tv op k A j x) : PutJ w tv op k A (j + 1) (x.setCell ⟨w.heap.size + 2, 2 + j, none⟩ (.int .i64 (A j))) := by
  refine ⟨⟨h.bx.cells.set (fun a ha => by simp at ha; rcases ha with rfl | rfl <;> (show _ ≠ w.heap.size + 2; simp)), h.bx.bel.setCell (p := ⟨w.heap.size + 2, 2 + j, none⟩) (by show _ ≤ w.heap.size + 2; omega) _⟩, ?_, ?_⟩
  · have := h.nd.set (2 + j) (.int .i64 (A j))
    rw [nF_set] at this
    exact this
  · rw [World.frozen?_setCell]; exact h.fz
end
theorem PutJ.fin {w x : World} {tv : Value} {op : Int} {k : Nat} {A : Nat → Int} (h : PutJ w tv op k A k x) (hk : k ≤ 3) (so : Int) :
    Bx w ((w.heap.size + 1, 0, .slice none 0 0) :: (w.heap.size, 0, tv) :: []) (x.setCell ⟨w.heap.size + 2, 5, none⟩ (.int .i64 so)) ∧ (x.setCell ⟨w.heap.size + 2, 5, none⟩ (.int .i64 so)).frozen? ⟨w.heap.size + 1, 0, none⟩ = false ∧ NdIn (x.setCell ⟨w.heap.size + 2, 5, none⟩ (.int .i64 so)) (w.heap.size + 2) 0 (opNd op k A so) := by
  refine ⟨⟨h.bx.cells.set (fun a ha => by simp at ha; rcases ha with rfl | rfl <;> (show _ ≠ w.heap.size + 2; simp)), h.bx.bel.setCell (p := ⟨w.heap.size + 2, 5, none⟩) (by show _ ≤ w.heap.size + 2; omega) _⟩, by rw [World.frozen?_setCell]; exact h.fz, ?_⟩
  have hnd := h.nd.set 5 (.int .i64 so)
  have hnc : ∀ i v, i < 8 → (fun i => if i = 5 then Value.int .i64 so else nF op k A k i) i = v → (x.setCell ⟨w.heap.size + 2, 5, none⟩ (.int .i64 so)).cell? ⟨w.heap.size + 2, 0 + i, none⟩ = some v := fun i v hi hv => by rw [← hv, Nat.zero_add]; exact hnd.cell hi
  have e6 : nF op k A k 6 = .int .i64 0 := by unfold nF; rw [if_neg (by omega), if_neg (by omega), if_neg (by omega)]
  have e7 : nF op k A k 7 = .int .i64 0 := by unfold nF; rw [if_neg (by omega), if_neg (by omega), if_neg (by omega)]
  exact ⟨hnc 0 _ (by omega) rfl, hnc 1 _ (by omega) rfl, hnc 2 _ (by omega) (nF_arg op k A hk 0 (by omega)), hnc 3 _ (by omega) (nF_arg op k A hk 1 (by omega)), hnc 4 _ (by omega) (nF_arg op k A hk 2 (by omega)), hnc 5 _ (by omega) rfl, hnc 6 _ (by omega) e6, hnc 7 _ (by omega) e7⟩
theorem RfPost.ret {R : CSt → Int → Prop} {w w' : World} {v' : Value} {s' : CSt} {y x : Int} (hR : R s' x) (hy : s'.e = 0 → y = x) (hN : NdsAt w' v' (tabN s') s'.N) (hb : Below w.heap.size w w') : RfPost R w (.returned (.tuple #[.agg #[v'], .int .i64 y, .int .i64 s'.e])) w' := ⟨v', s', x, y, rfl, hR, hy, hN, hb⟩
theorem kept_tab (s : CSt) {m : Nat} {M : Nat → Nd} {er : Int} (hm : er ≠ 0 → m = 0) {w : World} {v : Value} (h : NdsAt w v m M) : (keptS s m M er).e = er ∧ NdsAt w v (tabN (keptS s m M er)) (keptS s m M er).N := by
  by_cases he : er = 0
  · subst he
    rw [keptS_ok]
    exact ⟨rfl, h⟩
  · rw [keptS_no he, show tabN ⟨s.n, s.N, er⟩ = 0 from if_neg he]
    have := hm he
    subst this
    exact ⟨rfl, h.congr fun i hi => absurd hi (Nat.not_lt_zero i)⟩
set_option maxHeartbeats 16000000 in
theorem R12put_any (v : Value) (n : Nat) (N : Nat → Nd) (op : Int) (av : Value) (k : Nat) (A : Nat → Int) (most : Int) (w : World) (hv : NdsAt w v n N) (hn : n ≤ 900000) (h8 : R8 op) (hA : IntsAt w av k A) (hk : 1 ≤ k ∧ k ≤ 3) (hm : R64 most) (hin : ∀ i, i < k → 0 ≤ A i ∧ A i < n) :
    Calls Try.prog 73 #[.agg #[v], .int .i8 op, av, .int .i64 most] w (RfPost (PutOpR most ⟨n, N, 0⟩ op k A) w) := by
  have hv' := Lib.hid hv
  have hin' := Lib.hid hin
  obtain ⟨AA, ac, rfl, -, hRA, hAc⟩ := hA
  obtain ⟨ab, ao, rfl, hab, hAc⟩ := hAc (by omega)
  have hNR := Lib.hid hv.ranges
  have hpos : 0 < n := by have := hin 0 (by omega); omega
  obtain ⟨TA, c, rfl, -, -, hnd⟩ := hv
  obtain ⟨tb, to_, rfl, htb, hnd⟩ := hnd hpos
  have hnd' := Lib.hid hnd
  have hAc' := Lib.hid hAc
  have hRA' := Lib.hid hRA
  have hcv : IntKind.i8.wrap (k : Int) = (k : Int) := by
    have : k = 1 ∨ k = 2 ∨ k = 3 := by omega
    rcases this with rfl | rfl | rfl <;> rfl
  have hst := Lib.hid (PutJ.start w (some ⟨tb, to_, none⟩) n c op k A)
  obtain ⟨hk1, hk3⟩ := hk
  obtain ⟨S, hS⟩ : ∃ S : Nat → Int, S = sortsA ⟨n, N, 0⟩ A := ⟨_, rfl⟩
  have hSv : ∀ i, S i = (N (A i).toNat).sort := fun i => by rw [hS]; rfl
  have hS' := Lib.hid hS
  have hSv' := Lib.hid hSv
  clear hAc hRA hin hnd hS hSv
  go_enter Try.func73, Try.ntmps73
  go_wp2_with fail
  clear hcv
  go_loopw [12, 13] (fun z i wr => ∃ j : Nat, j ≤ k ∧ i = .int .i64 j ∧ Hid (PutJ w (.slice (some ⟨tb, to_, none⟩) n c) op k A j wr) ∧ Hid (OwnG wr (w.heap.size + 3) 3 1 z j (intC S))) (fun _ i _ => k - (intOf i).toNat)
  case atStart => exact ⟨0, Nat.zero_le _, rfl, hst.out, OwnG.nil _ _ _ _ _⟩
  case round =>
  clear hst
  obtain ⟨j, hj, rfl, hI, hown⟩ := hrel
  by_cases hlt : j < k
  · have i1 : decide ((j : Int) < (k : Int)) = true := decide_eq_true (by omega)
    have rj := (hI.out.bx.bel.cell (p := ⟨ab, ao + j, none⟩) hab).trans (hAc'.out j hlt)
    obtain ⟨a0, a1⟩ := hin'.out j hlt
    obtain ⟨aj, haj⟩ : ∃ aj : Nat, A j = aj := ⟨(A j).toNat, by omega⟩
    have e0 : nF op k A j (2 + j) = .int .i64 0 := by unfold nF; rw [if_neg (by omega), if_neg (by omega), if_neg (by omega)]
    have n0 : wr.cell? ⟨w.heap.size + 2, 2 + j, none⟩ = some (.int .i64 0) := hI.out.cell (by omega) e0
    have g0 : wr.frozen? ⟨w.heap.size + 2, 2 + j, none⟩ = false := hI.out.nd.frozen (2 + j)
    have hI1 := Lib.hid hI.out.set
    have ho1 := Lib.hid (hown.out.setLow (b := w.heap.size + 2) (o := 2 + j) (by omega) (.int .i64 (A j)))
    have hj0 : (0 : Int) ≤ (j : Int) := by omega
    have hj3 : (j : Int) < 3 := by omega
    have hjk : (j : Int) < (k : Int) := by omega
    have r1 := (hI1.out.bx.bel.cell (p := ⟨ab, ao + j, none⟩) hab).trans (hAc'.out j hlt)
    have q1 := (hI1.out.bx.bel.cell (p := ⟨tb, to_ + aj * 8 + 5, none⟩) htb).trans (hnd'.out aj (by omega)).2.2.2.2.2.1
    have k1 := hI1.out.bx.cells.2.1.1
    have hSj : S j = (N aj).sort := by rw [hSv'.out, haj]; rfl
    have z1 : Hid (w.heap.size + 3 ≤ (wr.setCell ⟨w.heap.size + 2, 2 + j, none⟩ (.int .i64 (A j))).heap.size) := by
      have := hI1.out.nd.lt
      show w.heap.size + 3 ≤ _
      omega
    rw [haj] at rj a0 a1 r1 q1 k1 hI1 ho1 z1
    have haj' := Lib.hid haj
    clear hI hown haj
    go_upto_region 7 with fail
    generalize hW1 : wr.setCell ⟨w.heap.size + 2, 2 + j, none⟩ (.int .i64 (aj : Int)) = W1 at *
    clear hW1 n0 g0 rj e0
    have hjm : j ≤ 1000000 := by omega
    have hxA := Lib.hid (hI1.out.step (((Below.refl W1.heap.size W1).alloc (Nat.le_refl _) (.cells #[.int .i64 (N aj).sort] 3)).drew))
    have hoA := Lib.hid (ho1.out.below (((Below.refl W1.heap.size W1).alloc (Nat.le_refl _) (.cells #[.int .i64 (N aj).sort] 3)).drew) (Nat.le_refl _))
    have hcA : Hid (∀ r u, (intC S j)[r]? = some u → (W1.alloc (.cells #[.int .i64 (N aj).sort] 3)).drew.cell? ⟨W1.heap.size, r, none⟩ = some u) := fun r u hu => lit_cells W1 3 [.int .i64 (N aj).sort] r u (by rw [intC, hSj] at hu; exact hu)
    have h1A : Hid (∀ u ∈ intC S j, u.oneCell' = true) := fun u hu => by simp [intC] at hu; subst hu; rfl
    have hbA : Hid (w.heap.size + 3 ≤ (W1.alloc (.cells #[.int .i64 (N aj).sort] 3)).drew.heap.size) := by
      have := z1.out
      show _ ≤ (W1.alloc _).heap.size; simp; omega
    obtain ⟨i0, hi, hz0, hz1, hz2⟩ := info_parts info_int
    have hi' := Lib.hid hi
    have hz0' := Lib.hid hz0
    have hz1' := Lib.hid hz1
    have hz2' := Lib.hid hz2
    clear hi hz0 hz1 hz2 hSj hI1 ho1
    go_region_law (refine step_appRow rfl (.tmp 34) (.tmp 44) 25 3 rfl i0 _ 8 1 Try.underlying25 hi'.out hz0'.out hz1'.out hz2'.out rfl (by decide) (w.heap.size + 3) _ j (intC S) rfl hoA.out W1.heap.size 1 rfl (by simp) (fun _ => rfl) hcA.out h1A.out hjm (by decide) hbA.out ?_; intro v' w7 hown7 hb7 hg7; have ho7 := Lib.hid hown7; have hx7 := Lib.hid (hxA.out.under hb7 (by omega)); clear hown7 hb7 hg7)
    all_goals go_wp2_with fail
    all_goals go_roundw
    all_goals (first
      | exact ⟨j + 1, by omega, by go_num, by rw [haj'.out] at *; exact hx7.out, ho7.out⟩
      | exact ⟨j + 1, by omega, by go_num, hx7.out, ho7.out⟩
      | (simp [intOf]; omega)
      | skip)
  · have i1 : decide ((j : Int) < (k : Int)) = false := decide_eq_false (by omega)
    obtain rfl : j = k := by omega
    have hSR : ∀ i, i < j → R64 (S i) := fun i hi => by rw [hSv'.out]; exact (hNR.out (A i).toNat (by have := hin'.out i hi; omega)).sort
    have hli := hown.out.ints (by omega) hSR
    have hTO := Lib.hid (RTOp_any op _ j S wr h8 hli)
    have hsR := Lib.hid (opT_R (op := op) hSR)
    clear hli hSR hown hlt hj
    obtain ⟨p, hp⟩ : ∃ p, p = opT op j S := ⟨_, rfl⟩
    rw [← hp] at hTO hsR
    have hp' := Lib.hid hp
    clear hp
    unfold opV at hTO
    go_wp2_with fail
    refine hTO.out.mono ?_
    rintro e w5 ⟨rfl, hb5⟩
    have hI5 := Lib.hid (hI.out.step hb5)
    clear hI hTO hb5
    obtain ⟨⟨r5, -⟩, ⟨q5, -⟩, -⟩ := hI5.out.bx.cells
    have f5 := hI5.out.fz
    by_cases h0 : p.2 = 0
    case neg =>
      have d2 : (p.2 != 0) = true := by simpa using h0
      have hs := Lib.hid (PutOpR.sort (most := most) (s := ⟨n, N, 0⟩) (op := op) (k := j) (A := A) rfl (by rw [← hS'.out, ← hp'.out]; exact h0))
      clear h0
      go_wp2_with fail
      exact bodyPost_ret (results_tab2 rfl _ _ (w.heap.size + 1) (.slice none 0 0) rfl (hI5.out.bx.res _)) rfl ⟨_, ⟨n, N, 33⟩, 0, 0, rfl, hs.out, fun e => absurd (show (33 : Int) = 0 from e) (by decide), NdsAt.nil _ _, hI5.out.bx.bset _ _ (by omega) _⟩
    have d2 : (p.2 != 0) = false := by rw [h0]; rfl
    have hs := Lib.hid (fun s' x hp => PutOpR.put (most := most) (s := ⟨n, N, 0⟩) (op := op) (k := j) (A := A) rfl (by rw [← hS'.out, ← hp'.out]; exact h0) s' x hp)
    rw [← hS'.out, ← hp'.out] at hs
    have e5 : nF op j A j 5 = .int .i64 0 := by unfold nF; rw [if_neg (by omega), if_neg (by omega), if_neg (by omega)]
    have n5 := hI5.out.cell (by omega) e5
    have g5 := hI5.out.nd.frozen 5
    obtain ⟨hbx, hfz, hnd⟩ := hI5.out.fin hk3 p.1
    have hbx' := Lib.hid hbx
    have hnR := opNd_R (op := op) (k := j) (A := A) (so := p.1) h8 hk3 hRA'.out hsR.out
    have hPu := Lib.hid (RPut_any _ n N (opNd op j A p.1) most _ (hv'.out.below hbx.bel) (by omega) hnR hm)
    unfold ndV at hPu
    clear hnR h0 hsR e5
    generalize hW : w5.setCell ⟨w.heap.size + 2, 5, none⟩ (.int .i64 p.1) = W at *
    obtain ⟨⟨rW, -⟩, ⟨qW, -⟩, -⟩ := hbx.cells
    obtain ⟨c0, c1, c2, c3, c4, c5, c6, c7⟩ := hnd
    simp only [Nat.zero_add] at c0 c1 c2 c3 c4 c5 c6 c7
    generalize hndE : opNd op j A p.1 = nd at *
    clear hI5
    go_wp2_with fail
    refine hPu.out.mono ?_
    rintro e w8 ⟨v8, m8, M8, a8, e8, rfl, hR8, hN8, hb8⟩
    have hx8 := Lib.hid (hbx'.out.step hb8)
    have hf8 : w8.frozen? ⟨w.heap.size + 1, 0, none⟩ = false := (hb8.frozen (p := ⟨w.heap.size + 1, 0, none⟩) hbx'.out.cells.1.2).trans hfz
    have hm8 : e8 ≠ 0 → m8 = 0 := hR8.fails
    have hRR := Lib.hid (hs.out _ _ (NodeR.put rfl m8 M8 a8 e8 hR8))
    have hN8' := Lib.hid hN8
    have hm8' := Lib.hid hm8
    obtain ⟨A8, k8, rfl, -, -, -⟩ := hN8
    clear hR8 hb8 hm8 hs hbx' c0 c1 c2 c3 c4 c5 c6 c7 rW qW hfz hW
    obtain ⟨⟨r8, -⟩, -⟩ := hx8.out.cells
    go_wp2_with fail
    have hfin := kept_tab ⟨n, N, 0⟩ hm8'.out (hN8'.out.setBox r8 (fun _ _ h => by cases h) (.slice A8 m8 k8))
    refine bodyPost_ret (results_tab2 rfl _ _ (w.heap.size + 1) (.slice A8 m8 k8) rfl (hx8.out.res _)) rfl ?_
    have := RfPost.ret (R := PutOpR most ⟨n, N, 0⟩ op j A) (w := w) hRR.out (fun _ => rfl) hfin.2 (hx8.out.bset _ _ (by omega) _)
    rw [hfin.1] at this
    exact this
end Go.Proofs.Ytecmoahadckomaa

namespace Go.Proofs.Ytecmoahadckomaa
open Go.RowKit Go.Maps
set_option maxRecDepth 100000

/-- The two boxes ahead of all: the table's at w.heap.size, the result's behind it. -/
structure TwoB (w : World) (u v : Value) (x : World) : Prop where
  r : x.cell? ⟨w.heap.size + 1, 0, none⟩ = some u
  t : x.cell? ⟨w.heap.size, 0, none⟩ = some v
  fr : x.frozen? ⟨w.heap.size + 1, 0, none⟩ = false
  ft : x.frozen? ⟨w.heap.size, 0, none⟩ = false
  bel : Below w.heap.size w x
  lt : w.heap.size + 1 < x.heap.size
section
variable {w x y : World} {u v : Value}
theorem TwoB.step (h : TwoB w u v x) (hb : Below x.heap.size x y) : TwoB w u v y := by
  have hl := h.lt
  exact ⟨(hb.cell (p := ⟨w.heap.size + 1, 0, none⟩) h.lt).trans h.r, (hb.cell (p := ⟨w.heap.size, 0, none⟩) (by show w.heap.size < _; omega)).trans h.t, (hb.frozen (p := ⟨w.heap.size + 1, 0, none⟩) h.lt).trans h.fr, (hb.frozen (p := ⟨w.heap.size, 0, none⟩) (by show w.heap.size < _; omega)).trans h.ft, h.bel.trans (hb.mono h.bel.size), Nat.lt_of_lt_of_le h.lt hb.size⟩
theorem TwoB.drew (h : TwoB w u v x) : TwoB w u v x.drew := h.step (Below.refl _ _).drew
theorem TwoB.skip (h : TwoB w u v x) (o : Obj) : TwoB w u v (x.alloc o) := h.step ((Below.refl _ _).alloc (Nat.le_refl _) o)
theorem TwoB.set0 (h : TwoB w u v x) (v' : Value) : TwoB w u v' (x.setCell ⟨w.heap.size, 0, none⟩ v') :=
  ⟨(World.cell?_setCell_far _ _ _ _ (by show w.heap.size ≠ w.heap.size + 1; omega)).trans h.r, World.cell?_setCell_same' _ _ _ (by rw [h.t]; rfl), by rw [World.frozen?_setCell]; exact h.fr, by rw [World.frozen?_setCell]; exact h.ft, h.bel.setCell (p := ⟨w.heap.size, 0, none⟩) (Nat.le_refl _) _, by simpa using h.lt⟩
theorem TwoB.set1 (h : TwoB w u v x) (u' : Value) : TwoB w u' v (x.setCell ⟨w.heap.size + 1, 0, none⟩ u') :=
  ⟨World.cell?_setCell_same' _ _ _ (by rw [h.r]; rfl), (World.cell?_setCell_far _ _ _ _ (by show w.heap.size + 1 ≠ w.heap.size; omega)).trans h.t, by rw [World.frozen?_setCell]; exact h.fr, by rw [World.frozen?_setCell]; exact h.ft, h.bel.setCell (p := ⟨w.heap.size + 1, 0, none⟩) (by show _ ≤ w.heap.size + 1; omega) _, by simpa using h.lt⟩
theorem TwoB.start (w : World) (A : Option Addr) (n c : Nat) : TwoB w (.slice none 0 0) (.slice A n c) ((w.alloc (.cells #[.slice A n c] 24)).alloc (.cells #[.slice none 0 0] 24)) := by
  have h := (bx_two w A n c 24 24)
  refine ⟨h.cells.1.1, h.cells.2.1.1, frz_two w A n c _ _, ?_, h.bel, h.cells.1.2⟩
  exact (((Below.refl _ _).alloc (Nat.le_refl _) _).frozen (p := ⟨w.heap.size, 0, none⟩) (by simp)).trans (by simp)
end
section
variable {R : CSt → Int → Prop} {w x : World} {A A0 : Option Addr} {c n0 c0 : Nat} {s' : CSt} {y z : Int} {v : Value}
theorem RfPost.fin (h : TwoB w (.slice A0 n0 c0) v x) (hR : R s' z) (hy : s'.e = 0 → y = z) (hN : NdsAt x (.slice A (tabN s') c) (tabN s') s'.N) :
    RfPost R w (.returned (.tuple #[.agg #[.slice A (tabN s') c], .int .i64 y, .int .i64 s'.e])) (x.setCell ⟨w.heap.size + 1, 0, none⟩ (.slice A (tabN s') c)) :=
  RfPost.ret hR hy (hN.setBox h.r (fun _ _ h => by cases h) _) (h.set1 _).bel
theorem RfPost.bad (h : TwoB w (.slice A0 n0 c0) v x) (hR : R s' z) (he : s'.e ≠ 0) (y : Int) :
    RfPost R w (.returned (.tuple #[.agg #[.slice none 0 0], .int .i64 y, .int .i64 s'.e])) (x.setCell ⟨w.heap.size + 1, 0, none⟩ (.slice none 0 0)) :=
  ⟨_, s', z, y, rfl, hR, fun e => absurd e he, by rw [show tabN s' = 0 from if_neg he]; exact NdsAt.nil _ _, (h.set1 _).bel⟩
end
theorem tabN_ok {s : CSt} (h : s.e = 0) : tabN s = s.n := if_pos h
theorem CSt.of0 {s : CSt} (h : s.e = 0) : (⟨s.n, s.N, 0⟩ : CSt) = s := by obtain ⟨n, N, e⟩ := s; cases h; rfl
theorem ints_pair (w : World) (a b : Int) (ha : R64 a) (hb : R64 b) : IntsAt (w.alloc (.cells #[.int .i64 a, .int .i64 b] 3)) (.slice (some ⟨w.heap.size, 0, none⟩) 2 2) 2 (pk2 a b) :=
  IntsAt.of_row (World.rowIs_alloc w #[.int .i64 a, .int .i64 b] 3 (fun j => .int .i64 (pk2 a b j)) (fun j hj => by
    have : j = 0 ∨ j = 1 := by simp at hj; omega
    rcases this with rfl | rfl <;> rfl)) (by simp) (by omega) (fun j _ => by unfold pk2; split; exact ha; exact hb) (fun _ _ => rfl) 2
theorem ints_one1 (w : World) (a : Int) (ha : R64 a) : IntsAt (w.alloc (.cells #[.int .i64 a] 3)) (.slice (some ⟨w.heap.size, 0, none⟩) 1 1) 1 (pk1 a) :=
  IntsAt.of_row (World.rowIs_alloc w #[.int .i64 a] 3 (fun j => .int .i64 (pk1 a j)) (fun j hj => by
    obtain rfl : j = 0 := by simp at hj; omega
    rfl)) (by simp) (by omega) (fun _ _ => ha) (fun _ _ => rfl) 1
theorem nat_R {i n : Nat} (h : i < n) (hn : n ≤ 1000000) : R64 (i : Int) := ⟨by omega, by omega⟩
set_option maxHeartbeats 8000000 in
theorem R12not_any (v : Value) (n : Nat) (N : Nat → Nd) (id most : Int) (w : World) (hv : NdsAt w v n N) (hn : n ≤ 900000) (hid : 0 ≤ id ∧ id < n) (hm : R64 most) :
    Calls Try.prog 72 #[.agg #[v], .int .i64 id, .int .i64 most] w (RfPost (NotMR most ⟨n, N, 0⟩ id) w) := by
  obtain ⟨i, rfl⟩ : ∃ i : Nat, id = i := ⟨id.toNat, by omega⟩
  have hi : i < n := by omega
  have hv' := Lib.hid hv
  obtain ⟨TA, c, rfl, -, -, hnd⟩ := hv
  obtain ⟨tb, to_, rfl, htb, hnd⟩ := hnd (by omega)
  have hx1 := Lib.hid (TwoB.start w (some ⟨tb, to_, none⟩) n c)
  have hnd' := Lib.hid (hnd i hi)
  have i0 : (0 : Int) ≤ (i : Int) := by omega
  have i1 : (i : Int) < (n : Int) := by omega
  clear hid hnd
  go_enter Try.func72, Try.ntmps72
  go_upto_region 1 with fail
  generalize hW1 : (w.alloc (.cells #[.slice (some ⟨tb, to_, none⟩) n c] 24)).alloc (.cells #[.slice none 0 0] 24) = w1 at *
  clear hW1
  have r0 := hx1.out.r
  have q0 := hx1.out.t
  have f0 := hx1.out.fr
  obtain ⟨c0, -, c2, -⟩ := hnd'.out
  have t0 := (hx1.out.bel.cell (p := ⟨tb, to_ + i * 8, none⟩) htb).trans c0
  have t2 := (hx1.out.bel.cell (p := ⟨tb, to_ + i * 8 + 2, none⟩) htb).trans c2
  clear c0 c2
  by_cases ho : (N i).op = 1
  · have d1 : ((N i).op == 1) = true := by rw [ho]; rfl
    have hR := Lib.hid (NotMR.back (most := most) (s := ⟨n, N, 0⟩) (a := (i : Int)) rfl (by rw [Int.toNat_natCast]; exact ho))
    have f2 : w1.drew.frozen? ⟨w.heap.size + 1, 0, none⟩ = false := hx1.out.drew.fr
    have r2 : w1.drew.cell? ⟨w.heap.size + 1, 0, none⟩ = some (.slice none 0 0) := hx1.out.drew.r
    have hx3 := Lib.hid (hx1.out.set1 (.slice (some ⟨tb, to_, none⟩) n c)).drew
    have hS0 : w1.drew.cell? ⟨w.heap.size, 0, none⟩ = some (.slice (some ⟨tb, to_, none⟩) n c) ∧ w1.drew.cell? ⟨tb, to_ + i * 8 + 2, none⟩ = some (.int .i64 (N i).a0) := ⟨q0, t2⟩
    have hS1 : (w1.setCell ⟨w.heap.size + 1, 0, none⟩ (.slice (some ⟨tb, to_, none⟩) n c)).drew.cell? ⟨w.heap.size, 0, none⟩ = some (.slice (some ⟨tb, to_, none⟩) n c) ∧ (w1.setCell ⟨w.heap.size + 1, 0, none⟩ (.slice (some ⟨tb, to_, none⟩) n c)).drew.cell? ⟨tb, to_ + i * 8 + 2, none⟩ = some (.int .i64 (N i).a0) :=
      ⟨hx3.out.t, (World.cell?_setCell_far _ _ _ _ (by show w.heap.size + 1 ≠ tb; omega)).trans t2⟩
    clear ho
    go_wp2_with fail
    go_region_held3 (fun y => y.cell? ⟨w.heap.size, 0, none⟩ = some (.slice (some ⟨tb, to_, none⟩) n c) ∧ y.cell? ⟨tb, to_ + i * 8 + 2, none⟩ = some (.int .i64 (N i).a0))
      (first | exact hS0 | exact hS1 | fail) (first | fail)
    go_wp2
    refine bodyPost_ret (results_tab2 rfl _ _ (w.heap.size + 1) (.slice (some ⟨tb, to_, none⟩) n c) rfl hx3.out.r) rfl ?_
    exact RfPost.ret (s' := ⟨n, N, 0⟩) hR.out (fun _ => rfl) (hv'.out.below hx3.out.bel) hx3.out.bel
  · have d1 : ((N i).op == 1) = false := by simpa using ho
    have hR := Lib.hid (fun s' x hp => NotMR.put (most := most) (s := ⟨n, N, 0⟩) (a := (i : Int)) (by rw [Int.toNat_natCast]; exact fun h => ho h.2) s' x hp)
    have hx2 := Lib.hid (hx1.out.skip (.cells #[.int .i64 i] 3))
    have hPu := Lib.hid (R12put_any _ n N 1 _ 1 (pk1 i) most _ (hv'.out.below hx2.out.bel) hn ⟨by decide, by decide⟩ (ints_one1 w1 i (nat_R hi (by omega))) ⟨by omega, by omega⟩ hm (fun j _ => ⟨by show 0 ≤ (i : Int); omega, by show (i : Int) < n; omega⟩))
    clear ho t2
    go_wp2_with fail
    refine hPu.out.mono ?_
    rintro e w3 ⟨v3, s3, x3, y3, rfl, hR3, hy3, hN3, hb3⟩
    have hx3 := Lib.hid (hx2.out.step hb3)
    have r3 := hx3.out.r
    have f3 := hx3.out.fr
    have hN3' := Lib.hid hN3
    have hR3' := Lib.hid (hR.out _ _ hR3)
    have hy3' := Lib.hid hy3
    obtain ⟨A3, c3, rfl, -, -, -⟩ := hN3
    clear hR3 hy3 hb3 hx2 hx1 hPu hR r0 q0 f0 t0
    go_wp2_with fail
    refine bodyPost_ret (results_tab2 rfl _ _ (w.heap.size + 1) (.slice A3 (tabN s3) c3) rfl (hx3.out.set1 _).r) rfl ?_
    exact RfPost.fin hx3.out hR3'.out hy3'.out hN3'.out
set_option maxHeartbeats 8000000 in
theorem R12same_any (v : Value) (n : Nat) (N : Nat → Nd) (a b most : Int) (w : World) (hv : NdsAt w v n N) (hn : n ≤ 900000) (ha : 0 ≤ a ∧ a < n) (hb : 0 ≤ b ∧ b < n) (hm : R64 most) :
    Calls Try.prog 84 #[.agg #[v], .int .i64 a, .int .i64 b, .int .i64 most] w (RfPost (SameMR most ⟨n, N, 0⟩ a b) w) := by
  have hv' := Lib.hid hv
  obtain ⟨TA, c, rfl, -, -, -⟩ := hv
  have hx1 := Lib.hid (TwoB.start w TA n c)
  have hR0 := Lib.hid (fun h => SameMR.one (most := most) (s := ⟨n, N, 0⟩) (a := a) (b := b) h)
  have hR1 := Lib.hid (fun h s' x hp => SameMR.put (most := most) (s := ⟨n, N, 0⟩) (a := a) (b := b) h s' x hp)
  have hP := Lib.hid (fun (p q : Int) (hp : 0 ≤ p ∧ p < n) (hq : 0 ≤ q ∧ q < n) (x : World) (hbx : Below w.heap.size w x) => R12put_any _ n N 6 _ 2 (pk2 p q) most _ (hv'.out.below (hbx.alloc hbx.size (.cells #[.int .i64 p, .int .i64 q] 3))) hn ⟨by decide, by decide⟩ (ints_pair x p q ⟨by omega, by omega⟩ ⟨by omega, by omega⟩) ⟨by omega, by omega⟩ hm (fun j _ => by unfold pk2; split <;> omega))
  go_enter Try.func84, Try.ntmps84
  go_upto_region 1 with fail
  generalize hW1 : (w.alloc (.cells #[.slice TA n c] 24)).alloc (.cells #[.slice none 0 0] 24) = w1 at *
  clear hW1
  have r0 := hx1.out.r
  have q0 := hx1.out.t
  have f0 := hx1.out.fr
  by_cases hab : a = b
  · have d1 : (a == b) = true := by simpa using hab
    have hR := Lib.hid (hR0.out hab)
    have hv2 := Lib.hid (hv'.out.below hx1.out.bel)
    clear hab hR0 hR1 hP
    go_wp2_with fail
    refine bodyPost_ret (results_tab2 rfl _ _ (w.heap.size + 1) (.slice TA n c) rfl (hx1.out.set1 _).r) rfl ?_
    exact RfPost.fin (s' := ⟨n, N, 0⟩) hx1.out hR.out (fun _ => rfl) hv2.out
  · have d1 : (a == b) = false := by simpa using hab
    by_cases hlt : a < b
    · have hR := Lib.hid (hR1.out hab)
      have hPu := Lib.hid (hP.out a b ⟨by omega, by omega⟩ ⟨by omega, by omega⟩ w1 hx1.out.bel)
      have hx2 := Lib.hid (hx1.out.skip (.cells #[.int .i64 a, .int .i64 b] 3))
      rw [Int.min_eq_left (by omega), Int.max_eq_right (by omega)] at hR
      have d2 : decide (a < b) = true := decide_eq_true hlt
      have d3 : decide (b < a) = false := decide_eq_false (by omega)
      clear hab hR0 hR1 hP
      go_wp2_with fail
      refine hPu.out.mono ?_
      rintro e w3 ⟨v3, s3, x3, y3, rfl, hR3, hy3, hN3, hb3⟩
      have hx3 := Lib.hid (hx2.out.step hb3)
      have r3 := hx3.out.r
      have f3 := hx3.out.fr
      have hN3' := Lib.hid hN3
      have hR3' := Lib.hid (hR.out _ _ hR3)
      have hy3' := Lib.hid hy3
      obtain ⟨A3, c3, rfl, -, -, -⟩ := hN3
      clear hR3 hy3 hb3 hx2 hx1 hPu hR r0 q0 f0
      go_wp2_with fail
      refine bodyPost_ret (results_tab2 rfl _ _ (w.heap.size + 1) (.slice A3 (tabN s3) c3) rfl (hx3.out.set1 _).r) rfl ?_
      exact RfPost.fin hx3.out hR3'.out hy3'.out hN3'.out
    · have hR := Lib.hid (hR1.out hab)
      have hPu := Lib.hid (hP.out b a ⟨by omega, by omega⟩ ⟨by omega, by omega⟩ w1 hx1.out.bel)
      have hx2 := Lib.hid (hx1.out.skip (.cells #[.int .i64 b, .int .i64 a] 3))
      rw [Int.min_eq_right (by omega), Int.max_eq_left (by omega)] at hR
      have d2 : decide (a < b) = false := decide_eq_false hlt
      have d3 : decide (b < a) = true := decide_eq_true (by omega)
      have hgt : b < a := by omega
      clear hab hR0 hR1 hP hlt
      go_wp2_with fail
      refine hPu.out.mono ?_
      rintro e w3 ⟨v3, s3, x3, y3, rfl, hR3, hy3, hN3, hb3⟩
      have hx3 := Lib.hid (hx2.out.step hb3)
      have r3 := hx3.out.r
      have f3 := hx3.out.fr
      have hN3' := Lib.hid hN3
      have hR3' := Lib.hid (hR.out _ _ hR3)
      have hy3' := Lib.hid hy3
      obtain ⟨A3, c3, rfl, -, -, -⟩ := hN3
      clear hR3 hy3 hb3 hx2 hx1 hPu hR r0 q0 f0
      go_wp2_with fail
      refine bodyPost_ret (results_tab2 rfl _ _ (w.heap.size + 1) (.slice A3 (tabN s3) c3) rfl (hx3.out.set1 _).r) rfl ?_
      exact RfPost.fin hx3.out hR3'.out hy3'.out hN3'.out
set_option maxHeartbeats 8000000 in
theorem R12le_any (v : Value) (n : Nat) (N : Nat → Nd) (a b c most : Int) (w : World) (hv : NdsAt w v n N) (hn : n ≤ 900000) (ha : R64 a) (hb : R64 b) (hc : R64 c) (hm : R64 most) :
    Calls Try.prog 77 #[.agg #[v], .int .i64 a, .int .i64 b, .int .i64 c, .int .i64 most] w (RfPost (DiffMR most ⟨n, N, 0⟩ a b c) w) := by
  have hv' := Lib.hid hv
  obtain ⟨TA, cp, rfl, -, -, -⟩ := hv
  have hx1 := Lib.hid (TwoB.start w TA n cp)
  have hR := Lib.hid (fun m M x is er hp => DiffMR.put (most := most) (s := ⟨n, N, 0⟩) (a := a) (b := b) (c := c) rfl m M x is er hp)
  have hL := Lib.hid (R11Le_any _ n N a b c most _ (hv'.out.below hx1.out.bel) (by omega) ha hb hc hm)
  go_enter Try.func77, Try.ntmps77
  go_upto_region 1 with fail
  generalize hW1 : (w.alloc (.cells #[.slice TA n cp] 24)).alloc (.cells #[.slice none 0 0] 24) = w1 at *
  clear hW1
  have q0 := hx1.out.t
  go_wp2_with fail
  refine hL.out.mono ?_
  rintro e w2 ⟨v2, m2, M2, x2, is2, e2, rfl, hR2, hN2, hb2⟩
  have hR2' := Lib.hid (hR.out _ _ _ _ _ hR2)
  have hx2 := Lib.hid (hx1.out.step hb2)
  have hN2' := Lib.hid hN2
  obtain ⟨A2, c2, rfl, -, -, -⟩ := hN2
  clear hR2 hb2 hL hR hx1 q0
  have f2 := hx2.out.ft
  have k2 := hx2.out.t
  have hx3 := Lib.hid (hx2.out.set0 (.slice A2 m2 c2))
  have hN3 := Lib.hid (hN2'.out.setBox k2 (fun _ _ h => by cases h) (.slice A2 m2 c2))
  by_cases he : e2 = 0
  · subst he
    rw [keptS_ok] at hR2'
    go_upto_region 2 with fail
    generalize hW3 : w2.setCell ⟨w.heap.size, 0, none⟩ (.slice A2 m2 c2) = w3 at *
    clear f2 k2 hx2 hN2' hW3
    have q3 := hx3.out.t
    have r3 := hx3.out.r
    have f3 := hx3.out.fr
    go_wp2_with fail
    refine bodyPost_ret (results_tab2 rfl _ _ (w.heap.size + 1) (.slice A2 m2 c2) rfl (hx3.out.set1 _).r) rfl ?_
    exact RfPost.fin (s' := ⟨m2, M2, 0⟩) hx3.out hR2'.out (fun _ => rfl) hN3.out
  · have d2 : (e2 != 0) = true := by simpa using he
    rw [keptS_no he] at hR2'
    have he' := Lib.hid he
    clear he
    go_upto_region 2 with fail
    generalize hW3 : w2.setCell ⟨w.heap.size, 0, none⟩ (.slice A2 m2 c2) = w3 at *
    clear f2 k2 hx2 hN2' hW3
    have r3 := hx3.out.r
    have f3 := hx3.out.fr
    go_wp2_with fail
    refine bodyPost_ret (results_tab2 rfl _ _ (w.heap.size + 1) (.slice none 0 0) rfl (hx3.out.set1 _).r) rfl ?_
    exact RfPost.bad (s' := ⟨n, N, e2⟩) hx3.out hR2'.out he'.out 0
end Go.Proofs.Ytecmoahadckomaa
