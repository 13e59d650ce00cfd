/- The law CoreAgain: the walk. -/
import Derived.Test.YtecmoahadckomaaZMkTMkX
import Derived.Test.YtecmoahadckomaaZMkVMkWk
import Derived.Test.YtecmoahadckomaaZAgGAgH
import Derived.Test.YtecmoahadckomaaZMkUR12Is
import Derived.Test.YtecmoahadckomaaZGreat5
namespace Go.Proofs.Ytecmoahadckomaa
open Go.RowKit Go.Maps
set_option maxRecDepth 100000

theorem CoreP.is {n : Nat} {N : Nat → Nd} (h : CoreP n N) : isCB n N = true :=
  isCB_yes ⟨h.ord, fun i hi => ⟨(h.ok i hi).kinds, (h.ok i hi).neg, (h.ok i hi).eq, fun o => ⟨⟨0, ((h.ok i hi).diff o).1.of h.chk⟩, ⟨0, ((h.ok i hi).diff o).2.1.of h.chk⟩, ((h.ok i hi).diff o).2.2⟩⟩⟩
set_option maxHeartbeats 8000000 in
theorem CoreAgain_any (v : Value) (n : Nat) (N : Nat → Nd) (rv : Value) (nr : Nat) (R : Nat → Int) (w : World) (hv : NdsAt w v n N) (hr : IntsAt w rv nr R) :
    Calls Try.prog 4 #[.agg #[v], rv] w fun x w' => x = .returned (.bool true) ∧ Below w.heap.size w w' := by
  have hv' := Lib.hid hv
  have hr' := Lib.hid hr
  obtain ⟨A, c, rfl, -, -, -⟩ := hv
  obtain ⟨U, cu, rfl, -, -, -⟩ := hr
  have hwk := Lib.hid wakes12_any
  have hx0 := Lib.hid ((Bx.nil w).one (.slice A n c) 24)
  by_cases hbig : 300 < n
  · have hd : Hid (decide (300 < n) = true) := by unfold Hid; simpa using hbig
    go_enter Try.func4, Try.ntmps4
    go_wp2_with fail
    refine (Great5_any _ n N _ (hv'.out.below hx0.out.bel)).mono ?_
    rintro x w2 ⟨rfl, hb2⟩
    rw [hd.out]
    go_wp2_with fail
    refine (hwk.out w2).mono ?_
    rintro x w3 ⟨rfl, hb3⟩
    go_wp2
    go_ret
    exact ⟨rfl, ((hx0.out.step hb2).step hb3).bel⟩
  have hd : Hid (decide (300 < n) = false) := by unfold Hid; simpa using hbig
  have hn : n ≤ 300 := by omega
  clear hbig
  by_cases hmany : 100 < nr
  · have d1 : decide ((100 : Int) < (nr : Int)) = true := decide_eq_true (by omega)
    clear hmany
    go_enter Try.func4, Try.ntmps4
    go_wp2_with fail
    refine (Great5_any _ n N _ (hv'.out.below hx0.out.bel)).mono ?_
    rintro x w2 ⟨rfl, hb2⟩
    rw [hd.out]
    go_wp2_with fail
    refine (hwk.out w2).mono ?_
    rintro x w3 ⟨rfl, hb3⟩
    go_wp2
    go_ret
    exact ⟨rfl, ((hx0.out.step hb2).step hb3).bel⟩
  have d1 : decide ((100 : Int) < (nr : Int)) = false := decide_eq_false (by omega)
  have hnr : nr ≤ 100 := by omega
  clear hmany
  go_enter Try.func4, Try.ntmps4
  go_wp2_with fail
  refine (Great5_any _ n N _ (hv'.out.below hx0.out.bel)).mono ?_
  rintro x w2 ⟨rfl, hb2⟩
  rw [hd.out]
  have hx2 := Lib.hid (hx0.out.step hb2)
  obtain ⟨⟨q0, z0⟩, -⟩ := hx2.out.cells
  have hOf := Lib.hid (Of12_any _ _ n nr N R 2000 w2 (hv'.out.below hx2.out.bel) (hr'.out.below hx2.out.bel) (by omega) (by omega) ⟨by decide, by decide⟩)
  clear hx0 hb2 hd
  go_wp2_with fail
  refine hOf.out.mono ?_
  rintro e w3 ⟨v3, vl, m, M, k, X, er, rfl, hO, hN, hI, hb3⟩
  have hx3 := Lib.hid (hx2.out.step hb3)
  have hO' := Lib.hid hO
  clear hO hx2 q0 z0 hb3 hOf
  have hN' := Lib.hid hN
  have hI' := Lib.hid hI
  obtain ⟨B, cb, rfl, -, -, -⟩ := hN
  obtain ⟨L, cl, rfl, -, -, -⟩ := hI
  by_cases he : er = 0
  case neg =>
    have e0 : (er != 0) = true := by simpa using he
    obtain rfl : k = 0 := hO'.out.none he
    clear he
    go_wp2_with fail
    refine (hwk.out _).mono ?_
    rintro x w4 ⟨rfl, hb4⟩
    go_wp2
    go_ret
    exact ⟨rfl, ((hx3.out.skip _).step hb4).bel⟩
  subst he
  have hM := Lib.hid (hO'.out.made rfl (by omega))
  have hMI := Lib.hid (hO'.out.madeI rfl)
  have hm2 : 2 ≤ m := hM.out.core.chk.two
  have hmf : m ≤ 2000 := by have := hMI.out.few; omega
  obtain rfl : k = nr := hM.out.len
  have hx4 := Lib.hid (hx3.out.one (.slice B m cb) 24)
  have hN4 := Lib.hid (hN'.out.alloc (.cells #[.slice B m cb] 24))
  have hI4 := Lib.hid (hI'.out.below ((Below.refl w3.heap.size w3).alloc (Nat.le_refl _) (.cells #[.slice B m cb] 24)))
  have hOf2 := Lib.hid (Of12_any _ _ m k M X 2000 _ hN4.out hI4.out (by omega) (by omega) ⟨by decide, by decide⟩)
  obtain ⟨⟨q4, z4⟩, -⟩ := hx4.out.cells
  clear hN' hI' hx3
  go_wp2_with fail
  refine hOf2.out.mono ?_
  rintro e w5 ⟨v5, v6, m5, M5, k5, X5, er5, rfl, hO5, hN5, hI5, hb5⟩
  obtain ⟨rfl, rfl, hle⟩ := hO5.again hM.out.core hMI.out (fun i hi => ⟨(hM.out.img i hi).1, (hM.out.img i hi).2.1⟩)
  obtain ⟨B5, c5, rfl, -, -, -⟩ := hN5
  obtain ⟨L5, l5, rfl, -, -, -⟩ := hI5
  have hx5 := Lib.hid ((hx4.out.step hb5).one (.slice B5 m5 c5) 24)
  have hN6 := Lib.hid ((hN4.out.below hb5).alloc (.cells #[.slice B5 m5 c5] 24))
  have hIs := Lib.hid (R12Is_any _ m M _ hN6.out (by omega))
  rw [hM.out.core.is] at hIs
  have d5 : decide ((m5 : Int) ≤ (m : Int)) = true := decide_eq_true (by omega)
  clear hOf2 hx4 hN4 hI4 hO5 hb5 q4 z4
  obtain ⟨⟨q5, -⟩, ⟨q4, -⟩, -⟩ := hx5.out.cells
  go_wp2_with fail
  refine hIs.out.mono ?_
  rintro e w7 ⟨rfl, hb7⟩
  have hx7 := Lib.hid (hx5.out.step hb7)
  clear q5 q4 hb7 hx5 hIs hN6
  obtain ⟨⟨q5, -⟩, ⟨q4, -⟩, -⟩ := hx7.out.cells
  go_wp2_with fail
  refine (hwk.out _).mono ?_
  rintro x w8 ⟨rfl, hb8⟩
  go_wp2
  go_ret
  exact ⟨rfl, (hx7.out.step hb8).bel⟩
end Go.Proofs.Ytecmoahadckomaa
