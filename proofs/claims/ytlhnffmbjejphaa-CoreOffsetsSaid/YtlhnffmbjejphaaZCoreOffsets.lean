/- The law CoreOffsets: the walk. -/
import Derived.Test.YtlhnffmbjejphaaZMkTMkX
import Derived.Test.YtlhnffmbjejphaaZMkVMkWk
import Derived.Test.YtlhnffmbjejphaaZR11Of
import Derived.Test.YtlhnffmbjejphaaZGreat5
namespace Go.Proofs.Ytlhnffmbjejphaa
open Go.RowKit Go.Maps
set_option maxRecDepth 100000

set_option maxHeartbeats 8000000 in
theorem CoreOffsets_any (v : Value) (n : Nat) (N : Nat → Nd) (rv : Value) (nr : Nat) (R : Nat → Int) (w : World) (hv : NdsAt w v n N) (hr : IntsAt w rv nr R) :
    Calls Try.prog 9 #[.agg #[v], rv] w fun x w' => x = .returned (.bool true) ∧ Below w.heap.size w w' := by
  have hv' := Lib.hid hv
  have hr' := Lib.hid hr
  obtain ⟨A, c, rfl, -, -, -⟩ := hv
  obtain ⟨U, cu, rfl, -, -, -⟩ := hr
  have hwk := Lib.hid wakes12_any
  have hx0 := Lib.hid ((Bx.nil w).one (.slice A n c) 36)
  by_cases hbig : 300 < n
  · have hd : Hid (decide (300 < n) = true) := by unfold Hid; simpa using hbig
    go_enter Try.func9, Try.ntmps9
    go_wp2_with fail
    refine (Great5_any _ n N _ (hv'.out.below hx0.out.bel)).mono ?_
    rintro x w2 ⟨rfl, hb2⟩
    rw [hd.out]
    go_wp2_with fail
    refine (hwk.out w2).mono ?_
    rintro x w3 ⟨rfl, hb3⟩
    go_wp2
    go_ret
    exact ⟨rfl, ((hx0.out.step hb2).step hb3).bel⟩
  have hd : Hid (decide (300 < n) = false) := by unfold Hid; simpa using hbig
  have hn : n ≤ 300 := by omega
  clear hbig
  by_cases hmany : 100 < nr
  · have d1 : decide ((100 : Int) < (nr : Int)) = true := decide_eq_true (by omega)
    clear hmany
    go_enter Try.func9, Try.ntmps9
    go_wp2_with fail
    refine (Great5_any _ n N _ (hv'.out.below hx0.out.bel)).mono ?_
    rintro x w2 ⟨rfl, hb2⟩
    rw [hd.out]
    go_wp2_with fail
    refine (hwk.out w2).mono ?_
    rintro x w3 ⟨rfl, hb3⟩
    go_wp2
    go_ret
    exact ⟨rfl, ((hx0.out.step hb2).step hb3).bel⟩
  have d1 : decide ((100 : Int) < (nr : Int)) = false := decide_eq_false (by omega)
  have hnr : nr ≤ 100 := by omega
  clear hmany
  go_enter Try.func9, Try.ntmps9
  go_wp2_with fail
  refine (Great5_any _ n N _ (hv'.out.below hx0.out.bel)).mono ?_
  rintro x w2 ⟨rfl, hb2⟩
  rw [hd.out]
  have hx2 := Lib.hid (hx0.out.step hb2)
  obtain ⟨⟨q0, z0⟩, -⟩ := hx2.out.cells
  have hOf := Lib.hid (Of12_any _ _ n nr N R 2000 w2 (hv'.out.below hx2.out.bel) (hr'.out.below hx2.out.bel) (by omega) (by omega) ⟨by decide, by decide⟩)
  clear hx0 hb2 hd
  go_wp2_with fail
  refine hOf.out.mono ?_
  rintro e w3 ⟨v3, vl, m, M, k, X, er, rfl, hO, hN, hI, hb3⟩
  have hx3 := Lib.hid (hx2.out.step hb3)
  have hO' := Lib.hid hO
  clear hO hI hx2 q0 z0 hb3 hOf
  have hN' := Lib.hid hN
  obtain ⟨B, cb, rfl, -, -, hnd⟩ := hN
  by_cases he : er = 0
  case neg =>
    have e0 : (er != 0) = true := by simpa using he
    clear he
    go_wp2_with fail
    refine (hwk.out _).mono ?_
    rintro x w4 ⟨rfl, hb4⟩
    go_wp2
    go_ret
    exact ⟨rfl, ((hx3.out.skip _).step hb4).bel⟩
  subst he
  have hM := Lib.hid (hO'.out.made rfl (by omega))
  have hm2 : 2 ≤ m := hM.out.core.chk.two
  have hmf : m ≤ 24002 := hM.out.few
  have hx4 := Lib.hid (hx3.out.one (.slice B m cb) 36)
  have hN4 := Lib.hid (hN'.out.alloc (.cells #[.slice B m cb] 36))
  obtain ⟨b, o, rfl, hbl, hnd⟩ := hnd (by omega)
  have hl4 : b < (w3.alloc (.cells #[.slice (some ⟨b, o, none⟩) m cb] 36)).heap.size := by simp; omega
  have hnd4 : Hid (∀ i, i < m → NdIn (w3.alloc (.cells #[.slice (some ⟨b, o, none⟩) m cb] 36)) b (o + i * 8) (M i)) := fun i hi => (hnd i hi).keep (fun k => ((Below.refl w3.heap.size w3).alloc (Nat.le_refl _) _).cell (p := ⟨b, k, none⟩) hbl)
  have hB := Lib.hid (show w3.heap.size < (w3.alloc (.cells #[.slice (some ⟨b, o, none⟩) m cb] 36)).heap.size by simp)
  have hwB := Lib.hid hx3.out.bel.size
  obtain ⟨⟨q4, z4⟩, -⟩ := hx4.out.cells
  have d3 : decide ((m : Int) < 2) = false := decide_eq_false (by omega)
  clear hnd hN' hx3
  have hO1 := Lib.hid (ROrdered_any (.slice (some ⟨b, o, none⟩) m cb) m M _ hN4.out (by omega))
  rw [ordB_iff.2 hM.out.core.ord] at hO1
  go_wp2_with fail
  generalize w3.alloc (.cells #[.slice (some ⟨b, o, none⟩) m cb] 36) = w4 at *
  refine hO1.out.mono ?_
  rintro e w5 ⟨rfl, hb5⟩
  have hx5 := Lib.hid (hx4.out.step hb5)
  have hN5 := hN4.out.below hb5
  have hO2 := Lib.hid (RCheck_any (.slice (some ⟨b, o, none⟩) m cb) m M w5 hN5 (by omega))
  rw [check_yes hM.out.core.chk] at hO2
  have hnd5 : Hid (∀ i, i < m → NdIn w5 b (o + i * 8) (M i)) := fun i hi => (hnd4.out i hi).keep (fun k => hb5.cell (p := ⟨b, k, none⟩) hl4)
  have hl5 : b < w5.heap.size := by have := hb5.size; omega
  clear hO1 q4 z4 hb5 hnd4 hx4 hN4 hl4
  obtain ⟨⟨q4, z4⟩, -⟩ := hx5.out.cells
  go_wp2_with fail
  refine hO2.out.mono ?_
  rintro e w6 ⟨rfl, hb6⟩
  have hx6 := Lib.hid (hx5.out.step hb6)
  have hN6 := Lib.hid (hN5.below hb6)
  have hnd6 : Hid (∀ i, i < m → NdIn w6 b (o + i * 8) (M i)) := fun i hi => (hnd5.out i hi).keep (fun k => hb6.cell (p := ⟨b, k, none⟩) hl5)
  have hl6 : b < w6.heap.size := by have := hb6.size; omega
  clear hO2 q4 z4 hb6 hnd5 hx5 hN5 hl5
  obtain ⟨⟨q4, z4⟩, -⟩ := hx6.out.cells
  have n1 := (hnd6.out 1 (by omega)).1
  rw [show (M 1).op = 10 by rw [hM.out.core.chk.zz]; rfl] at n1
  have i1 : (1 : Int) < (m : Int) := by omega
  go_wp2_with fail
  have hbel := Lib.hid hx6.out.bel
  have hy6 : Hid (Bx w6 [(w3.heap.size, 0, .slice (some ⟨b, o, none⟩) m cb)] w6) := ⟨⟨hx6.out.cells.1, trivial⟩, Below.refl _ _⟩
  clear hx6 n1 i1 q4 z4 d3 hO' d1
  go_loopw [8] (fun i wr => ∃ j : Nat, j ≤ m ∧ i = .int .i64 j ∧ Hid (Bx w6 [(w3.heap.size, 0, .slice (some ⟨b, o, none⟩) m cb)] wr)) (fun i _ => m - (intOf i).toNat)
  case atStart => exact ⟨0, Nat.zero_le _, rfl, hy6.out⟩
  case round =>
  clear hy6
  obtain ⟨j, hj, rfl, hx⟩ := hrel
  obtain ⟨⟨q0, qz⟩, -⟩ := hx.out.cells
  by_cases hlt : j < m
  case neg =>
    have i1 : decide ((j : Int) < (m : Int)) = false := decide_eq_false (by omega)
    go_wp2_with fail
    refine (hwk.out _).mono ?_
    rintro e w8 ⟨rfl, hb8⟩
    go_wp2
    go_ret
    exact ⟨rfl, hbel.out.trans ((hx.out.step hb8).bel.mono (by have := hbel.out.size; omega))⟩
  have i1 : decide ((j : Int) < (m : Int)) = true := decide_eq_true (by omega)
  obtain ⟨n0, n1, n2, n3, n4, n5, n6, n7⟩ := (hnd6.out j hlt).keep (w' := wr) (fun k => hx.out.bel.cell (p := ⟨b, k, none⟩) hl6)
  have hj0 : (0 : Int) ≤ (j : Int) := by omega
  have hjm : (j : Int) < (m : Int) := by omega
  have hnn : ¬ (m ≤ j) := by omega
  have hbx := Lib.hid (hx.out.row #[.int .i8 (M j).op, .int .i8 (M j).len, .int .i64 (M j).a0, .int .i64 (M j).a1, .int .i64 (M j).a2, .int .i64 (M j).sort, .int .i64 (M j).fn, .int .i64 (M j).num] 49)
  simp only [rowK, List.cons_append, List.nil_append] at hbx
  have hnR := Lib.hid (hN6.out.ranges j hlt)
  by_cases h12 : (M j).op = 12
  case neg =>
    have e12 : ((M j).op != 12) = true := by simpa using h12
    clear h12
    go_wp2_with fail
    go_roundw
    case rel => exact ⟨j + 1, by omega, rfl, hx.out.skip _⟩
    case measure => simp [intOf]; omega
  have e12 : ((M j).op != 12) = false := by rw [h12]; rfl
  obtain ⟨hA, hB', hne⟩ := (hM.out.core.ok j hlt).diff h12
  have hA' := Lib.hid (hA.of hM.out.core.chk)
  have hB' := Lib.hid (hB'.of hM.out.core.chk)
  have hRa : R64 (M j).a0 := hnR.out.a0
  have hRb : R64 (M j).a1 := hnR.out.a1
  have hN9 := Lib.hid (hN6.out.below hbx.out.bel)
  obtain ⟨⟨b0, -⟩, -, ⟨b2, -⟩, ⟨b3, -⟩, -, -, -, -, ⟨c0, -⟩, -⟩ := hbx.out.cells
  simp only [Nat.zero_add, Nat.reduceAdd] at b2 b3
  have hOa := Lib.hid (R11Of_any (.slice (some ⟨b, o, none⟩) m cb) m M (M j).a0 _ hN9.out (by omega) hRa)
  have b2' := Lib.hid b2
  have b3' := Lib.hid b3
  clear hA h12 hx
  go_wp2_with fail
  refine hOa.out.mono ?_
  rintro e w10 ⟨x, kx, ex, rfl, hOx, hb10⟩
  obtain ⟨rfl, rfl, rfl⟩ := hOx.uni hA'.out
  have hx10 := Lib.hid (hbx.out.step hb10)
  have hN10 := hN6.out.below hx10.out.bel
  have hOb := Lib.hid (R11Of_any (.slice (some ⟨b, o, none⟩) m cb) m M (M j).a1 _ hN10 (by omega) hRb)
  clear b0 b2 b3 c0 hOx hb10 hN10 hbx hOa hN9 n0 n1 n2 n3 n4 n5 n6 n7 b2' b3' q0 qz
  obtain ⟨⟨b0, -⟩, -, ⟨b2, -⟩, ⟨b3, -⟩, -, -, -, -, ⟨c0, -⟩, -⟩ := hx10.out.cells
  simp only [Nat.zero_add, Nat.reduceAdd] at b2 b3
  go_wp2_with fail
  refine hOb.out.mono ?_
  rintro e w11 ⟨y, ky, ey, rfl, hOy, hb11⟩
  obtain ⟨rfl, rfl, rfl⟩ := hOy.uni hB'.out
  have hx11 := Lib.hid (hx10.out.step hb11)
  clear b0 b2 b3 c0 hOy hb11 hx10 hOb
  obtain ⟨⟨b0, -⟩, -, ⟨b2, -⟩, ⟨b3, -⟩, -, -, -, -, ⟨c0, -⟩, -⟩ := hx11.out.cells
  simp only [Nat.zero_add, Nat.reduceAdd] at b2 b3
  have t1 : ((M j).a0 == (M j).a1) = false := by simpa using hne
  have t2 : ((M j).a0 != (M j).a0) = false := by simp
  have t3 : ((M j).a1 != (M j).a1) = false := by simp
  go_wp2_with fail
  go_roundw
  case rel => exact ⟨j + 1, by omega, rfl, ⟨⟨hx11.out.cells.2.2.2.2.2.2.2.2.1, trivial⟩, hx11.out.bel⟩⟩
  case measure => simp [intOf]; omega
end Go.Proofs.Ytlhnffmbjejphaa
