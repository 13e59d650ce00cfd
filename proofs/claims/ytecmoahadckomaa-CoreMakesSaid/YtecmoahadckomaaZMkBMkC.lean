/- A maker's put: a node of a kind, its Args' sorts asked. -/
import Derived.Test.YtecmoahadckomaaZMkA
import Derived.Test.YtecmoahadckomaaZTyOpTyOpB
namespace Go.Proofs.Ytecmoahadckomaa
open Go.RowKit Go.Maps
set_option maxRecDepth 100000

def nF (op : Int) (k : Nat) (A : Nat → Int) (j i : Nat) : Value := if i = 0 then .int .i8 op else if i = 1 then .int .i8 k else if 2 ≤ i ∧ i < 2 + j then .int .i64 (A (i - 2)) else .int .i64 0
def sF (S : Nat → Int) (j i : Nat) : Value := .int .i64 (if i < j then S i else 0)
structure PutI (w : World) (op : Int) (k : Nat) (A S : Nat → Int) (j : Nat) (wr : World) : Prop where
  bel : Below w.heap.size w wr
  nd : wr.rowIs w.heap.size 39 8 (nF op k A j)
  so : wr.rowIs (w.heap.size + 1) 3 k (sF S j)
section
variable {w wr x : World} {op : Int} {k j : Nat} {A S : Nat → Int}
theorem PutI.drew (h : PutI w op k A S j wr) : PutI w op k A S j wr.drew := ⟨h.bel.drew, h.nd, h.so⟩
theorem PutI.step (h : PutI w op k A S j wr) (hb : Below wr.heap.size wr x) : PutI w op k A S j x :=
  ⟨h.bel.trans (hb.mono h.bel.size), h.nd.of_block (hb.block _ h.nd.lt), h.so.of_block (hb.block _ h.so.lt)⟩
theorem PutI.start (w : World) (op : Int) (k : Nat) (A S : Nat → Int) : PutI w op k A S 0 ((w.alloc (.cells #[.int .i8 op, .int .i8 k, .int .i64 0, .int .i64 0, .int .i64 0, .int .i64 0, .int .i64 0, .int .i64 0] 39)).alloc (.cells (madeCells #[.int .i64 0] k) 3)) := by
  refine ⟨((Below.refl _ _).alloc (Nat.le_refl _) _).alloc (by simp) _, ?_, ?_⟩
  · refine World.rowIs.alloc ?_ _
    refine World.rowIs_alloc w _ _ _ fun i hi => ?_
    have hi : i < 8 := hi
    obtain rfl | rfl | rfl | rfl | rfl | rfl | rfl | rfl : i = 0 ∨ i = 1 ∨ i = 2 ∨ i = 3 ∨ i = 4 ∨ i = 5 ∨ i = 6 ∨ i = 7 := by omega
    all_goals rfl
  · have := World.rowIs_made (w.alloc (.cells #[.int .i8 op, .int .i8 k, .int .i64 0, .int .i64 0, .int .i64 0, .int .i64 0, .int .i64 0, .int .i64 0] 39)) (.int .i64 0) k 3
    simp only [World.size_alloc] at this
    exact this.congr fun i hi => by unfold sF; rw [if_neg (by omega)]
theorem nF_set : (fun i => if i = 2 + j then Value.int .i64 (A j) else nF op k A j i) = nF op k A (j + 1) := by
  funext i
  unfold nF
  by_cases e : i = 2 + j
  · subst e
    rw [if_pos rfl, if_neg (by omega), if_neg (by omega), if_pos (by omega), show 2 + j - 2 = j by omega]
  · rw [if_neg e]
    by_cases h2 : 2 ≤ i ∧ i < 2 + j
    · rw [if_pos h2, if_pos (show 2 ≤ i ∧ i < 2 + (j + 1) by omega)]
    · rw [if_neg h2, if_neg (show ¬ (2 ≤ i ∧ i < 2 + (j + 1)) by omega)]
theorem sF_set : (fun i => if i = j then Value.int .i64 (S j) else sF S j i) = sF S (j + 1) := by
  funext i
  unfold sF
  by_cases e : i = j
  · subst e; rw [if_pos rfl, if_pos (by omega)]
  · rw [if_neg e]
    by_cases h2 : i < j
    · rw [if_pos h2, if_pos (by omega)]
    · rw [if_neg h2, if_neg (by omega)]
theorem PutI.set1 (h : PutI w op k A S j wr) (_ : j < k) : PutI w op k A S (j + 1) ((wr.setCell ⟨w.heap.size, 2 + j, none⟩ (.int .i64 (A j))).setCell ⟨w.heap.size + 1, j, none⟩ (.int .i64 (S j))) :=
  ⟨(h.bel.setCell (p := ⟨w.heap.size, 2 + j, none⟩) (Nat.le_refl _) _).setCell (p := ⟨w.heap.size + 1, j, none⟩) (by show _ ≤ w.heap.size + 1; omega) _,
   by have := (h.nd.set (2 + j) (.int .i64 (A j))).setOther (a := ⟨w.heap.size + 1, j, none⟩) (by show w.heap.size ≠ w.heap.size + 1; omega) (.int .i64 (S j)); rw [nF_set] at this; exact this,
   by have := (h.so.setOther (a := ⟨w.heap.size, 2 + j, none⟩) (by show w.heap.size + 1 ≠ w.heap.size; omega) (.int .i64 (A j))).set j (.int .i64 (S j)); rw [sF_set] at this; exact this⟩
theorem PutI.set2 (h : PutI w op k A S j wr) (_ : j < k) : PutI w op k A S (j + 1) ((wr.setCell ⟨w.heap.size + 1, j, none⟩ (.int .i64 (S j))).setCell ⟨w.heap.size, 2 + j, none⟩ (.int .i64 (A j))) :=
  ⟨(h.bel.setCell (p := ⟨w.heap.size + 1, j, none⟩) (by show _ ≤ w.heap.size + 1; omega) _).setCell (p := ⟨w.heap.size, 2 + j, none⟩) (Nat.le_refl _) _,
   by have := (h.nd.setOther (a := ⟨w.heap.size + 1, j, none⟩) (by show w.heap.size ≠ w.heap.size + 1; omega) (.int .i64 (S j))).set (2 + j) (.int .i64 (A j)); rw [nF_set] at this; exact this,
   by have := (h.so.set j (.int .i64 (S j))).setOther (a := ⟨w.heap.size, 2 + j, none⟩) (by show w.heap.size + 1 ≠ w.heap.size; omega) (.int .i64 (A j)); rw [sF_set] at this; exact this⟩
end
theorem st_eta {s : CSt} {e : Int} (h : s.e = e) : (⟨s.n, s.N, e⟩ : CSt) = s := by subst h; rfl
theorem nF_arg (op : Int) (k : Nat) (A : Nat → Int) (_ : k ≤ 3) (i : Nat) (hi : i < 3) : nF op k A k (2 + i) = .int .i64 (if i < k then A i else 0) := by
  unfold nF
  rw [if_neg (by omega), if_neg (by omega)]
  by_cases h : i < k
  · rw [if_pos (by omega), if_pos h, show 2 + i - 2 = i by omega]
  · rw [if_neg (by omega), if_neg h]
theorem opT_R {op : Int} {m : Nat} {F : Nat → Int} (h : ∀ i, i < m → R64 (F i)) : R64 (opT op m F).1 := by
  have h0 : R64 0 := ⟨by decide, by decide⟩
  by_cases h7 : op = 7
  · subst h7
    rw [opT7]
    by_cases h3 : m = 3
    · subst h3
      repeat' split
      all_goals first | exact h0 | exact h 1 (by omega)
    · rw [if_pos h3]; exact h0
  · have hf := tyR_free h7
    unfold opT tailT
    have hR : R64 (tyR op) := by unfold tyR; rw [if_neg h7]; split <;> exact ⟨by decide, by decide⟩
    repeat' split
    all_goals first | exact h0 | exact hR | (exfalso; omega)
theorem opNd_R {op : Int} {k : Nat} {A : Nat → Int} {so : Int} (h8 : R8 op) (hk : k ≤ 3) (hA : ∀ i, i < k → R64 (A i)) (hs : R64 so) : NdR (opNd op k A so) := by
  have h0 : R64 0 := ⟨by decide, by decide⟩
  have ha : ∀ i, R64 (if i < k then A i else 0) := fun i => by
    by_cases h : i < k
    · rw [if_pos h]; exact hA i h
    · rw [if_neg h]; exact h0
  exact ⟨h8, ⟨by show -128 ≤ (k : Int); omega, by show (k : Int) ≤ 127; omega⟩, ha 0, ha 1, ha 2, hs, h0, h0⟩
set_option maxHeartbeats 8000000 in
theorem MkPut_any (g : Nat) (most : Int) (s : CSt) (op : Int) (k : Nat) (A : Nat → Int) (av : Value) (w : World) (hM : MkrAt w g most s) (hA : IntsAt w av k A) (hk : 1 ≤ k ∧ k ≤ 3) (h8 : R8 op) (hn : s.n ≤ 900000) (hm : R64 most) (hin : s.e = 0 → ∀ i, i < k → 0 ≤ A i ∧ A i < s.n) :
    Calls Try.prog 60 #[.pointer (some ⟨g, 0, none⟩), .int .i8 op, av] w (MkrPost g most (PutOpR most s op k A) w) := by
  have hl := hM.lt
  have hM' := Lib.hid hM
  obtain ⟨AA, ac, rfl, -, hRA, hAc⟩ := hA
  obtain ⟨ab, ao, rfl, hab, hAc⟩ := hAc (by omega)
  obtain ⟨TA, c, q0, q1, q2, f0, f2, hN⟩ := hM.cells
  by_cases he : s.e = 0
  case neg =>
    have d : (s.e != 0) = true := by simpa using he
    have hr := Lib.hid (PutOpR.err (most := most) (op := op) (k := k) (A := A) he)
    clear he hM hN hAc hRA hin
    go_enter Try.func60, Try.ntmps60
    go_wp2_with fail
    go_ret
    exact ⟨s, 0, rfl, hr.out, hM'.out, But.refl _ _ _⟩
  have hin' := Lib.hid (hin he)
  have hNR := Lib.hid hN.ranges
  have hpos : 0 < s.n := by have := hin he 0 (by omega); omega
  obtain ⟨_, _, e1, -, -, hnd⟩ := hN
  injection e1 with e1 _ e3
  subst e1; subst e3
  obtain ⟨tb, to_, rfl, htb, hnd⟩ := hnd hpos
  have hnd' := Lib.hid hnd
  have hAc' := Lib.hid hAc
  have hRA' := Lib.hid hRA
  have d : (s.e != 0) = false := by rw [he]; rfl
  have he' := Lib.hid he
  have hcv : IntKind.i8.wrap (k : Int) = (k : Int) := by
    have : k = 1 ∨ k = 2 ∨ k = 3 := by omega
    rcases this with rfl | rfl | rfl <;> rfl
  have hst := Lib.hid (PutI.start w op k A (sortsA s A))
  have hmk : ∀ X : World, (Instr.makeSlice 25 (.int .i64 k) (.int .i64 k)).run Try.prog X = .ok (.slice (some ⟨X.heap.size, 0, none⟩) k k) (X.alloc (.cells (madeCells #[.int .i64 0] k) 3)) := by
    have : k = 1 ∨ k = 2 ∨ k = 3 := by omega
    rcases this with rfl | rfl | rfl <;> exact fun _ => by kernel_rfl
  obtain ⟨hk1, hk3⟩ := hk
  clear hM hAc hRA hin hnd he hpos
  go_enter Try.func60, Try.ntmps60
  go_wp2_with fail
  have hq0 := Lib.hid q0
  clear q0 q1 q2 f0 f2 d hcv hmk
  go_loopw [26] (fun i wr => ∃ j : Nat, j ≤ k ∧ i = .int .i64 j ∧ Hid (PutI w op k A (sortsA s A) j wr)) (fun i _ => k - (intOf i).toNat)
  case atStart => exact ⟨0, Nat.zero_le _, rfl, hst.out⟩
  case round =>
  clear hst
  obtain ⟨j, hj, rfl, hI⟩ := hrel
  by_cases hlt : j < k
  · have i1 : decide ((j : Int) < (k : Int)) = true := decide_eq_true (by omega)
    have rj := (hI.out.bel.cell (p := ⟨ab, ao + j, none⟩) hab).trans (hAc'.out j hlt)
    obtain ⟨a0, a1⟩ := hin'.out j hlt
    have hKp : ∀ {x : World}, Below w.heap.size w x → (x.cell? ⟨g, 0, none⟩ = some (.slice (some ⟨tb, to_, none⟩) s.n c) ∧ x.cell? ⟨tb, to_ + (A j).toNat * 8 + 5, none⟩ = some (.int .i64 (sortsA s A j))) := fun {x} hb =>
      ⟨(hb.cell (p := ⟨g, 0, none⟩) hl).trans hq0.out, (hb.cell (p := ⟨tb, to_ + (A j).toNat * 8 + 5, none⟩) htb).trans (hnd'.out (A j).toNat (by omega)).2.2.2.2.2.1⟩
    have hb0 : Below w.heap.size w wr.drew := hI.out.bel.drew
    have hI1 := Lib.hid (hI.out.set1 hlt)
    have hnd0 := hI.out.nd
    have hso0 := hI.out.so
    have e0 : nF op k A j (2 + j) = .int .i64 0 := by unfold nF; rw [if_neg (by omega), if_neg (by omega), if_neg (by omega)]
    have e1 : sF (sortsA s A) j j = .int .i64 0 := by unfold sF; rw [if_neg (by omega)]
    have n0 : wr.drew.cell? ⟨w.heap.size, 2 + j, none⟩ = some (nF op k A j (2 + j)) := hnd0.cell (i := 2 + j) (by omega)
    rw [e0] at n0
    have g0 : wr.drew.frozen? ⟨w.heap.size, 2 + j, none⟩ = false := hnd0.frozen (2 + j)
    have hso1 := hso0.setOther (a := ⟨w.heap.size, 2 + j, none⟩) (by show w.heap.size + 1 ≠ w.heap.size; omega) (.int .i64 (A j))
    have s1 : (wr.setCell ⟨w.heap.size, 2 + j, none⟩ (.int .i64 (A j))).drew.cell? ⟨w.heap.size + 1, j, none⟩ = some (sF (sortsA s A) j j) := hso1.cell (i := j) hlt
    rw [e1] at s1
    have h1 : (wr.setCell ⟨w.heap.size, 2 + j, none⟩ (.int .i64 (A j))).drew.frozen? ⟨w.heap.size + 1, j, none⟩ = false := hso1.frozen j
    have hb1 : Below w.heap.size w (wr.setCell ⟨w.heap.size, 2 + j, none⟩ (.int .i64 (A j))).drew := (hI.out.bel.setCell (p := ⟨w.heap.size, 2 + j, none⟩) (Nat.le_refl _) (.int .i64 (A j))).drew
    have hb2 := hI1.out.drew.bel
    have hj0 : (0 : Int) ≤ (j : Int) := by omega
    have hj3 : (j : Int) < 3 := by omega
    have hjk : (j : Int) < (k : Int) := by omega
    clear hnd0 hso0 hso1 e0 e1 hI hq0 hnd' hAc'
    go_upto_region 8 with fail
    go_region_held3 (fun x => x.cell? ⟨g, 0, none⟩ = some (.slice (some ⟨tb, to_, none⟩) s.n c) ∧ x.cell? ⟨tb, to_ + (A j).toNat * 8 + 5, none⟩ = some (.int .i64 (sortsA s A j)))
      (first | exact hKp hb0 | exact hKp hb1 | exact hKp hb2 | fail) (first | fail)
    have hI3 := Lib.hid hI1.out.drew
    go_wp2_with fail
    go_roundw
    case rel => exact ⟨j + 1, by omega, by go_num, hI3.out⟩
    case measure => simp [intOf]; omega
  · have i1 : decide ((j : Int) < (k : Int)) = false := decide_eq_false (by omega)
    obtain rfl : j = k := by omega
    have hSR : ∀ i, i < j → R64 (sortsA s A i) := fun i hi => (hNR.out (A i).toNat (by have := hin'.out i hi; omega)).sort
    have hints : IntsAt wr (.slice (some ⟨w.heap.size + 1, 0, none⟩) j j) j (sortsA s A) := IntsAt.of_row hI.out.so (Nat.le_refl _) (by omega) hSR (fun i hi => by unfold sF; rw [if_pos hi]) j
    have hTO := Lib.hid (TOp_any op _ j (sortsA s A) wr h8 hints (fun A n c e => by injection e with _ e2 e3; omega))
    have hsR := Lib.hid (opT_R (op := op) hSR)
    have hnr := Lib.hid (fun so hs => opNd_R (so := so) h8 hk3 hRA'.out hs)
    clear hints hSR hlt hin' hNR hAc' hRA' hnd' hq0 hj
    obtain ⟨p, hp⟩ : ∃ p, p = opT op j (sortsA s A) := ⟨_, rfl⟩
    rw [← hp] at hTO hsR
    have hp' := Lib.hid hp
    clear hp
    unfold opV at hTO
    go_wp2_with fail
    refine hTO.out.mono ?_
    rintro e w5 ⟨rfl, hb5⟩
    have hI5 := Lib.hid (hI.out.step hb5)
    have e5 : nF op j A j 5 = .int .i64 0 := by unfold nF; rw [if_neg (by omega), if_neg (by omega), if_neg (by omega)]
    have n5 := hI5.out.nd.cell (i := 5) (by omega)
    rw [e5] at n5
    have g5 := hI5.out.nd.frozen 5
    have hbW := Lib.hid (hI5.out.bel.setCell (p := ⟨w.heap.size, 5, none⟩) (Nat.le_refl _) (.int .i64 p.1))
    have hndW := Lib.hid (hI5.out.nd.set 5 (.int .i64 p.1))
    have hMW := Lib.hid (hM'.out.below hbW.out)
    generalize hWe : w5.setCell ⟨w.heap.size, 5, none⟩ (.int .i64 p.1) = W at *
    obtain ⟨_, _, -, -, z2, -, y2, -⟩ := hMW.out.cells
    have hMX := Lib.hid (hMW.out.setE p.2)
    have hbX := Lib.hid ((But.of hbW.out [g]).setg 2 (.int .i64 p.2))
    have hndX := Lib.hid (hndW.out.setOther (a := ⟨g, 2, none⟩) (by show w.heap.size ≠ g; omega) (.int .i64 p.2))
    have hbXX : Hid (w.heap.size ≤ (W.setCell ⟨g, 2, none⟩ (.int .i64 p.2)).heap.size) := hbX.out.size
    generalize hXe : W.setCell ⟨g, 2, none⟩ (.int .i64 p.2) = X at *
    obtain ⟨_, _, -, -, x2, -, u2, -⟩ := hMX.out.cells
    dsimp only at x2
    clear hI hI5 hTO hb5 e5 hMW hbW hndW
    by_cases h0 : p.2 = 0
    case neg =>
      have d2 : (p.2 != 0) = true := by simpa using h0
      have hs := Lib.hid (PutOpR.sort (most := most) (op := op) (k := j) (A := A) he'.out (by rw [← hp'.out]; exact h0))
      clear h0
      go_wp2_with fail
      go_ret
      exact ⟨_, 0, rfl, hs.out, hMX.out.setE 33, hbX.out.setg _ _⟩
    have d2 : (p.2 != 0) = false := by rw [h0]; rfl
    have hs := Lib.hid (fun s' x hp => PutOpR.put (most := most) (op := op) (k := j) (A := A) (s := s) he'.out (by rw [← hp'.out]; exact h0) s' x hp)
    rw [← hp'.out] at hs
    have hMX' : Hid (MkrAt X g most s) := by have := hMX.out; rw [h0, st_eta he'.out] at this; exact this
    have hNo := Lib.hid (MkNode_any g most s (opNd op j A p.1) X hMX'.out hn (hnr.out _ hsR.out) hm)
    have hnc : ∀ i v, i < 8 → (fun i => if i = 5 then Value.int .i64 p.1 else nF op j A j i) i = v → X.cell? ⟨w.heap.size, i, none⟩ = some v := fun i v hi hv => by rw [← hv]; exact hndX.out.cell hi
    have c0 := hnc 0 (.int .i8 (opNd op j A p.1).op) (by omega) rfl
    have c1 := hnc 1 (.int .i8 (opNd op j A p.1).len) (by omega) rfl
    have c2 := hnc 2 (.int .i64 (opNd op j A p.1).a0) (by omega) (nF_arg op j A hk3 0 (by omega))
    have c3 := hnc 3 (.int .i64 (opNd op j A p.1).a1) (by omega) (nF_arg op j A hk3 1 (by omega))
    have c4 := hnc 4 (.int .i64 (opNd op j A p.1).a2) (by omega) (nF_arg op j A hk3 2 (by omega))
    have c5 := hnc 5 (.int .i64 (opNd op j A p.1).sort) (by omega) rfl
    have e6 : nF op j A j 6 = .int .i64 0 := by unfold nF; rw [if_neg (by omega), if_neg (by omega), if_neg (by omega)]
    have e7 : nF op j A j 7 = .int .i64 0 := by unfold nF; rw [if_neg (by omega), if_neg (by omega), if_neg (by omega)]
    have c6 := hnc 6 (.int .i64 (opNd op j A p.1).fn) (by omega) e6
    have c7 := hnc 7 (.int .i64 (opNd op j A p.1).num) (by omega) e7
    unfold ndV at hNo
    generalize hnd : opNd op j A p.1 = nd at *
    clear hnc hndX hMX hnr e6 e7 h0
    go_wp2_with fail
    refine hNo.out.mono ?_
    rintro e w8 ⟨s', x, rfl, hR, hM8, hB8⟩
    have hR' := Lib.hid (hs.out s' x hR)
    have hM8' := Lib.hid hM8
    have hB8' := Lib.hid hB8
    clear hR hM8 hB8 c0 c1 c2 c3 c4 c5 c6 c7 x2 u2 n5 g5 z2 y2
    go_wp2_with fail
    go_ret
    exact ⟨s', x, rfl, hR'.out, hM8'.out, hbX.out.trans (hB8'.out.mono hbXX.out (fun _ h => h))⟩
end Go.Proofs.Ytecmoahadckomaa

namespace Go.Proofs.Ytecmoahadckomaa
open Go.RowKit Go.Maps
set_option maxRecDepth 100000

theorem ints_row (w : World) (cs : Array Value) (k : Nat) (A : Nat → Int) (hs : cs.size = k) (hk : k ≤ 1000) (hc : ∀ i, i < k → cs[i]? = some (.int .i64 (A i))) (hR : ∀ i, i < k → R64 (A i)) :
    IntsAt (w.alloc (.cells cs 3)) (.slice (some ⟨w.heap.size, 0, none⟩) k k) k A := by
  have h := World.rowIs_alloc w cs 3 (fun i => .int .i64 (A i)) fun i hi => hc i (by omega)
  rw [hs] at h
  exact IntsAt.of_row h (Nat.le_refl _) (by omega) hR (fun _ _ => rfl) k
theorem ints_one (w : World) (a : Int) (ha : R64 a) : IntsAt (w.alloc (.cells #[.int .i64 a] 3)) (.slice (some ⟨w.heap.size, 0, none⟩) 1 1) 1 (pk1 a) :=
  ints_row w _ 1 _ rfl (by omega) (fun i hi => by
    have : i = 0 := by omega
    subst this; rfl) (fun _ _ => ha)
theorem ints_two (w : World) (a b : Int) (ha : R64 a) (hb : R64 b) : IntsAt (w.alloc (.cells #[.int .i64 a, .int .i64 b] 3)) (.slice (some ⟨w.heap.size, 0, none⟩) 2 2) 2 (pk2 a b) :=
  ints_row w _ 2 _ rfl (by omega) (fun i hi => by
    have : i = 0 ∨ i = 1 := by omega
    rcases this with rfl | rfl <;> rfl) (fun i _ => by unfold pk2; split; exact ha; exact hb)
theorem ints_three (w : World) (a b c : Int) (ha : R64 a) (hb : R64 b) (hc : R64 c) : IntsAt (w.alloc (.cells #[.int .i64 a, .int .i64 b, .int .i64 c] 3)) (.slice (some ⟨w.heap.size, 0, none⟩) 3 3) 3 (pk3' a b c) :=
  ints_row w _ 3 _ rfl (by omega) (fun i hi => by
    have : i = 0 ∨ i = 1 ∨ i = 2 := by omega
    rcases this with rfl | rfl | rfl <;> rfl) (fun i _ => by unfold pk3'; split; exact ha; split; exact hb; exact hc)
set_option maxHeartbeats 4000000 in
theorem MkDiff_any (g : Nat) (most : Int) (s : CSt) (a b c : Int) (w : World) (hM : MkrAt w g most s) (hn : s.n ≤ 900000) (ha : R64 a) (hb : R64 b) (hc : R64 c) (hm : R64 most) :
    Calls Try.prog 63 #[.pointer (some ⟨g, 0, none⟩), .int .i64 a, .int .i64 b, .int .i64 c] w (MkrPost g most (DiffMR most s a b c) w) := by
  have hl := hM.lt
  have hM' := Lib.hid hM
  obtain ⟨A, cc, q0, q1, q2, f0, f2, hN⟩ := hM.cells
  have hN' := Lib.hid hN
  by_cases he : s.e = 0
  case neg =>
    have d : (s.e != 0) = true := by simpa using he
    have hr := Lib.hid (DiffMR.err (most := most) (a := a) (b := b) (c := c) he)
    clear he hM hN
    go_enter Try.func63, Try.ntmps63
    go_wp2_with fail
    go_ret
    exact ⟨s, 0, rfl, hr.out, hM'.out, But.refl _ _ _⟩
  have hLe := Lib.hid fun (x : World) (hbx : Below w.heap.size w x) => Le_any (.slice A s.n cc) s.n s.N a b c most x (hN'.out.below hbx) (by omega) ha hb hc hm
  have d : (s.e != 0) = false := by rw [he]; rfl
  have he' := Lib.hid he
  clear hM hN he
  have hKp : ∀ {x : World}, Below w.heap.size w x → (x.cell? ⟨g, 0, none⟩ = some (.slice A s.n cc) ∧ x.cell? ⟨g, 1, none⟩ = some (.int .i64 most)) := fun {x} hb =>
    ⟨(hb.cell (p := ⟨g, 0, none⟩) hl).trans q0, (hb.cell (p := ⟨g, 1, none⟩) hl).trans q1⟩
  have hb0 : Below w.heap.size w w.drew := (Below.refl _ _).drew
  have hbA : Below w.heap.size w (w.alloc (.cells #[.slice none 0 0] 24)).drew := ((Below.refl _ _).alloc (Nat.le_refl _) _).drew
  have hbA0 : Below w.heap.size w (w.alloc (.cells #[.slice none 0 0] 24)) := (Below.refl _ _).alloc (Nat.le_refl _) _
  go_enter Try.func63, Try.ntmps63
  go_upto_region 3 with fail
  clear q0 q1 q2 f0 f2
  go_region_held3 (fun x => x.cell? ⟨g, 0, none⟩ = some (.slice A s.n cc) ∧ x.cell? ⟨g, 1, none⟩ = some (.int .i64 most))
    (first | exact hKp hb0 | exact hKp hbA | exact hKp hbA0 | exact hKp hb11 | exact hKp (hb11.alloc hb11.size _) | exact hKp (hb11.setCell (p := ⟨w.heap.size, 0, none⟩) (Nat.le_refl _) _) | fail)
    (first | (go_at_call 82; (with_reducible refine (hLe.out _ hb0).mono ?_); rintro e w11 ⟨v11, m11, M11, k11, is11, er11, rfl, hPR, hN11, hb11⟩; replace hb11 := hb0.trans (hb11.mono hb0.size); have hN11' := Lib.hid hN11; obtain ⟨B11, c11, rfl, -, -, -⟩ := hN11) | (go_at_call 82; (with_reducible refine (hLe.out _ hbA).mono ?_); rintro e w11 ⟨v11, m11, M11, k11, is11, er11, rfl, hPR, hN11, hb11⟩; have kB : w11.cell? ⟨w.heap.size, 0, none⟩ = some (.slice none 0 0) := (hb11.cell (p := ⟨w.heap.size, 0, none⟩) (by simp)).trans (by simp); have fB : w11.frozen? ⟨w.heap.size, 0, none⟩ = false := (hb11.frozen (p := ⟨w.heap.size, 0, none⟩) (by simp)).trans (by simp); replace hb11 := hbA.trans (hb11.mono hbA.size); have hN11' := Lib.hid hN11; obtain ⟨B11, c11, rfl, -, -, -⟩ := hN11) | fail)
  · have hb12 : Below w.heap.size w (w11.alloc (.cells #[.slice B11 m11 c11] 24)) := hb11.alloc hb11.size _
    have hN12 := Lib.hid (hN11'.out.alloc (.cells #[.slice B11 m11 c11] 24))
    have kT : (w11.alloc (.cells #[.slice B11 m11 c11] 24)).cell? ⟨w11.heap.size, 0, none⟩ = some (.slice B11 m11 c11) := by simp
    have hM12 := Lib.hid (hM'.out.below hb12)
    have hbS := Lib.hid (But.of hb12 [g])
    have hPR' := Lib.hid hPR
    generalize w11.alloc (.cells #[.slice B11 m11 c11] 24) = W12 at *
    have hKe := Lib.hid (MkKept_any g most s (.slice B11 m11 c11) m11 M11 k11 er11 W12 hM12.out hN12.out)
    have hsz : Hid (w.heap.size ≤ W12.heap.size) := hb12.size
    clear hb12 hb11 hb0 hbA hbA0 hKp hPR hN11' hLe hN12
    go_wp2_with fail
    refine hKe.out.mono ?_
    rintro e w13 ⟨rfl, hM13, hB13⟩
    have hM13' := Lib.hid hM13
    have hB13' := Lib.hid hB13
    clear hM13 hB13 kT
    go_wp2_with fail
    go_ret
    exact ⟨_, k11, rfl, .put he'.out _ _ _ _ _ hPR'.out, hM13'.out, hbS.out.trans (hB13'.out.mono hsz.out (fun _ h => h))⟩
  · have hb12 : Below w.heap.size w (w11.setCell ⟨w.heap.size, 0, none⟩ (.slice B11 m11 c11)) := hb11.setCell (p := ⟨w.heap.size, 0, none⟩) (Nat.le_refl _) _
    have hN12 := Lib.hid (hN11'.out.setBox kB (fun _ _ h => by cases h) (.slice B11 m11 c11))
    have kT : (w11.setCell ⟨w.heap.size, 0, none⟩ (.slice B11 m11 c11)).cell? ⟨w.heap.size, 0, none⟩ = some (.slice B11 m11 c11) := World.cell?_setCell_same' _ _ _ (by rw [kB]; rfl)
    have hM12 := Lib.hid (hM'.out.below hb12)
    have hbS := Lib.hid (But.of hb12 [g])
    have hPR' := Lib.hid hPR
    have hsz : Hid (w.heap.size ≤ (w11.setCell ⟨w.heap.size, 0, none⟩ (.slice B11 m11 c11)).heap.size) := hb12.size
    clear hb12 hb11 hb0 hbA hbA0 hKp hPR hN11' hLe kB fB
    generalize w11.setCell ⟨w.heap.size, 0, none⟩ (.slice B11 m11 c11) = W12 at *
    have hKe := Lib.hid (MkKept_any g most s (.slice B11 m11 c11) m11 M11 k11 er11 W12 hM12.out hN12.out)
    clear hN12
    go_wp2_with fail
    refine hKe.out.mono ?_
    rintro e w13 ⟨rfl, hM13, hB13⟩
    have hM13' := Lib.hid hM13
    have hB13' := Lib.hid hB13
    clear hM13 hB13 kT
    go_wp2_with fail
    go_ret
    exact ⟨_, k11, rfl, .put he'.out _ _ _ _ _ hPR'.out, hM13'.out, hbS.out.trans (hB13'.out.mono hsz.out (fun _ h => h))⟩
set_option maxHeartbeats 4000000 in
theorem MkNot_any (g : Nat) (most : Int) (s : CSt) (a : Int) (w : World) (hM : MkrAt w g most s) (hn : s.n ≤ 900000) (ha : R64 a) (hm : R64 most) (hin : s.e = 0 → 0 ≤ a ∧ a < s.n) :
    Calls Try.prog 59 #[.pointer (some ⟨g, 0, none⟩), .int .i64 a] w (MkrPost g most (NotMR most s a) w) := by
  have hl := hM.lt
  have hM' := Lib.hid hM
  obtain ⟨A, cc, q0, q1, q2, f0, f2, hN⟩ := hM.cells
  have hb1 : Below w.heap.size w (w.alloc (.cells #[.int .i64 a] 3)) := (Below.refl _ _).alloc (Nat.le_refl _) _
  have hPu := Lib.hid (MkPut_any g most s 1 1 (pk1 a) _ _ (hM.below hb1) (ints_one w a ha) (by omega) ⟨by decide, by decide⟩ hn hm (fun he i _ => hin he))
  have hb1' := Lib.hid hb1
  by_cases he : s.e = 0
  · obtain ⟨a0, a1⟩ := hin he
    obtain ⟨_, _, e1, -, -, hnd⟩ := hN
    injection e1 with e1 _ e3
    subst e1; subst e3
    obtain ⟨tb, to_, rfl, htb, hnd⟩ := hnd (by omega)
    obtain ⟨n0, _, n2, -⟩ := hnd a.toNat (by omega)
    have d : (s.e == 0) = true := by rw [he]; rfl
    by_cases ho : (s.N a.toNat).op = 1
    · have d1 : ((s.N a.toNat).op == 1) = true := by rw [ho]; rfl
      have hr := Lib.hid (NotMR.back (most := most) he ho)
      clear he ho hM hb1 hPu hnd hin
      go_enter Try.func59, Try.ntmps59
      go_wp2_with fail
      go_ret
      exact ⟨s, _, rfl, hr.out, hM'.out, But.refl _ _ _⟩
    · have d1 : ((s.N a.toNat).op == 1) = false := by simpa using ho
      have hr := Lib.hid (fun s' x hp => NotMR.put (most := most) (a := a) (s := s) (fun h => ho h.2) s' x hp)
      clear he ho hM hb1 hnd hin
      go_enter Try.func59, Try.ntmps59
      go_wp2_with fail
      refine hPu.out.mono ?_
      rintro e w8 ⟨s', x, rfl, hR, hM8, hB8⟩
      have hR' := Lib.hid (hr.out s' x hR)
      have hM8' := Lib.hid hM8
      have hB8' := Lib.hid hB8
      clear hR hM8 hB8
      go_wp2_with fail
      go_ret
      exact ⟨s', x, rfl, hR'.out, hM8'.out, (But.of hb1'.out [g]).trans (hB8'.out.mono hb1'.out.size (fun _ h => h))⟩
  · have d : (s.e == 0) = false := by simpa using he
    have hr := Lib.hid (fun s' x hp => NotMR.put (most := most) (a := a) (s := s) (fun h => he h.1) s' x hp)
    clear he hM hb1 hN hin
    go_enter Try.func59, Try.ntmps59
    go_wp2_with fail
    refine hPu.out.mono ?_
    rintro e w8 ⟨s', x, rfl, hR, hM8, hB8⟩
    have hR' := Lib.hid (hr.out s' x hR)
    have hM8' := Lib.hid hM8
    have hB8' := Lib.hid hB8
    clear hR hM8 hB8
    go_wp2_with fail
    go_ret
    exact ⟨s', x, rfl, hR'.out, hM8'.out, (But.of hb1'.out [g]).trans (hB8'.out.mono hb1'.out.size (fun _ h => h))⟩
set_option maxHeartbeats 4000000 in
theorem MkSame_any (g : Nat) (most : Int) (s : CSt) (a b : Int) (w : World) (hM : MkrAt w g most s) (hn : s.n ≤ 900000) (ha : R64 a) (hb : R64 b) (hm : R64 most) (hin : s.e = 0 → (0 ≤ a ∧ a < s.n) ∧ (0 ≤ b ∧ b < s.n)) :
    Calls Try.prog 81 #[.pointer (some ⟨g, 0, none⟩), .int .i64 a, .int .i64 b] w (MkrPost g most (SameMR most s a b) w) := by
  have hM' := Lib.hid hM
  by_cases hab : a = b
  · have d : (a == b) = true := by rw [hab]; simp
    have hr := Lib.hid (SameMR.one (most := most) (s := s) hab)
    clear hab hM hin
    go_enter Try.func81, Try.ntmps81
    go_wp2_with fail
    go_ret
    exact ⟨s, 0, rfl, hr.out, hM'.out, But.refl _ _ _⟩
  · have d : (a == b) = false := by simpa using hab
    have hr := Lib.hid (fun s' x hp => SameMR.put (most := most) (s := s) hab s' x hp)
    by_cases hlt : a < b
    · have hPu := Lib.hid (MkPut_any g most s 6 2 (pk2 a b) _ _ (hM.below ((Below.refl _ _).alloc (Nat.le_refl _) _)) (ints_two w a b ha hb) (by omega) ⟨by decide, by decide⟩ hn hm (fun he i _ => by have := hin he; unfold pk2; split <;> omega))
      have hb1' := Lib.hid ((Below.refl w.heap.size w).alloc (Nat.le_refl _) (.cells #[.int .i64 a, .int .i64 b] 3))
      rw [Int.min_eq_left (Int.le_of_lt hlt), Int.max_eq_right (Int.le_of_lt hlt)] at hr
      have d1 : decide (a < b) = true := decide_eq_true hlt
      have d2 : decide (b < a) = false := decide_eq_false (by omega)
      clear hab hM hin
      go_enter Try.func81, Try.ntmps81
      go_wp2_with fail
      refine hPu.out.mono ?_
      rintro e w8 ⟨s', x, rfl, hR, hM8, hB8⟩
      have hR' := Lib.hid (hr.out s' x hR)
      have hM8' := Lib.hid hM8
      have hB8' := Lib.hid hB8
      clear hR hM8 hB8
      go_wp2_with fail
      go_ret
      exact ⟨s', x, rfl, hR'.out, hM8'.out, (But.of hb1'.out [g]).trans (hB8'.out.mono hb1'.out.size (fun _ h => h))⟩
    · have hPu := Lib.hid (MkPut_any g most s 6 2 (pk2 b a) _ _ (hM.below ((Below.refl _ _).alloc (Nat.le_refl _) _)) (ints_two w b a hb ha) (by omega) ⟨by decide, by decide⟩ hn hm (fun he i _ => by have := hin he; unfold pk2; split <;> omega))
      have hb1' := Lib.hid ((Below.refl w.heap.size w).alloc (Nat.le_refl _) (.cells #[.int .i64 b, .int .i64 a] 3))
      rw [Int.min_eq_right (by omega), Int.max_eq_left (by omega)] at hr
      have d1 : decide (a < b) = false := decide_eq_false (by omega)
      have d2 : decide (b < a) = true := decide_eq_true (by omega)
      have hgt : b < a := by omega
      clear hab hM hin hlt
      go_enter Try.func81, Try.ntmps81
      go_wp2_with fail
      refine hPu.out.mono ?_
      rintro e w8 ⟨s', x, rfl, hR, hM8, hB8⟩
      have hR' := Lib.hid (hr.out s' x hR)
      have hM8' := Lib.hid hM8
      have hB8' := Lib.hid hB8
      clear hR hM8 hB8
      go_wp2_with fail
      go_ret
      exact ⟨s', x, rfl, hR'.out, hM8'.out, (But.of hb1'.out [g]).trans (hB8'.out.mono hb1'.out.size (fun _ h => h))⟩
end Go.Proofs.Ytecmoahadckomaa
