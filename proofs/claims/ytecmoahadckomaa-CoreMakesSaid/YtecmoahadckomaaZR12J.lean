/- gantryref12.fit. -/
import Derived.Test.YtecmoahadckomaaZR12AR12B
import Derived.Test.YtecmoahadckomaaZMkKMkLMkN
import Derived.Deep.RegionLawGrows
namespace Go.Proofs.Ytecmoahadckomaa
open Go.RowKit Go.Maps
set_option maxRecDepth 1000000

/-- What holds within one node's round. -/
structure FitI (nb : Nat) (wq : World) (e : Nd) (S : Nat → Int) (z : Value) (k : Nat) (x : World) : Prop where
  bel : Below nb wq x
  nd : x.rowIs nb 39 8 (ndF e)
  own : OwnG x (nb + 1) 3 1 z k (intC S)
theorem FitI.start (w : World) (e : Nd) (S : Nat → Int) : FitI w.heap.size w e S (.slice none 0 0) 0 (w.alloc (.cells #[.int .i8 e.op, .int .i8 e.len, .int .i64 e.a0, .int .i64 e.a1, .int .i64 e.a2, .int .i64 e.sort, .int .i64 e.fn, .int .i64 e.num] 39)) := by
  refine ⟨(Below.refl _ _).alloc (Nat.le_refl _) _, ?_, OwnG.nil _ _ _ _ _⟩
  refine World.rowIs_alloc w _ _ _ fun i hi => ?_
  have hi : i < 8 := hi
  obtain rfl | rfl | rfl | rfl | rfl | rfl | rfl | rfl : i = 0 ∨ i = 1 ∨ i = 2 ∨ i = 3 ∨ i = 4 ∨ i = 5 ∨ i = 6 ∨ i = 7 := by omega
  all_goals rfl
set_option maxHeartbeats 8000000 in
theorem R12fit_any (v : Value) (n : Nat) (N : Nat → Nd) (w : World) (hv : NdsAt w v n N) (hc : CheckP n N) (hn : n ≤ 1000000) :
    Calls Try.prog 24 #[.agg #[v]] w fun z w' => z = .returned (.bool (fitsB n N)) ∧ Below w.heap.size w w' := by
  have h2 := hc.two
  have hNR := Lib.hid hv.ranges
  have hc' := Lib.hid hc
  obtain ⟨A, c, rfl, -, -, hnd⟩ := hv
  obtain ⟨tb, to_, rfl, htb, hnd⟩ := hnd (by omega)
  have hnd' := Lib.hid hnd
  have hx0 := Lib.hid ((Bx.nil w).one (.slice (some ⟨tb, to_, none⟩) n c) 24)
  have hal : Try.prog.arrayLen 37 = 3 := by kernel_rfl
  obtain ⟨⟨k0, -⟩, -⟩ := hx0.out.cells
  clear hnd hc
  go_enter Try.func24, Try.ntmps24
  go_wp2_with fail
  go_loopw [3] (fun i wr => ∃ j : Nat, j ≤ n ∧ i = .int .i64 j ∧ Hid (upTo j (fun i => fitN N (N i)) = true) ∧ Hid (Bx w [(w.heap.size, 0, .slice (some ⟨tb, to_, none⟩) n c)] wr)) (fun i _ => n - (intOf i).toNat)
  case atStart => exact ⟨0, Nat.zero_le _, rfl, upTo_yes (fun i hi => absurd hi (Nat.not_lt_zero i)), hx0.out⟩
  case round =>
  clear hx0 k0
  obtain ⟨j, hj, rfl, hup, hx⟩ := hrel
  obtain ⟨⟨k0, -⟩, -⟩ := hx.out.cells
  by_cases hlt : j < n
  · have i1 : decide ((j : Int) < (n : Int)) = true := decide_eq_true (by omega)
    have hst := Lib.hid (hc'.out.all j hlt)
    have hl0 := hst.out.len0
    have hl3 := hst.out.len3
    obtain ⟨m, hlm⟩ : ∃ m : Nat, (N j).len = m := ⟨(N j).len.toNat, by omega⟩
    obtain ⟨n0, n1, n2, n3, n4, n5, n6, n7⟩ := (hnd'.out j hlt).keep (w' := wr) (fun k => hx.out.bel.cell (p := ⟨tb, k, none⟩) htb)
    rw [hlm] at n1
    have hm0 : (0 : Int) ≤ (m : Int) := by omega
    have hm3 : m ≤ 3 := by omega
    have hlm' := Lib.hid hlm
    have hjn : (j : Int) < (n : Int) := by omega
    have hj0 : (0 : Int) ≤ (j : Int) := by omega
    clear hlm hl0 hl3
    by_cases h13 : (N j).op = 13
    · have d13 : ((N j).op == 13) = true := by rw [h13]; rfl
      have hnx : Hid (upTo (j + 1) (fun i => fitN N (N i)) = true) := upTo_yes fun i hi => by
        by_cases e : i = j
        · subst e; unfold fitN; rw [if_pos h13]
        · exact (upTo_iff _ _).1 hup.out i (by omega)
      have hx1 := Lib.hid (hx.out.skip (.cells #[.int .i8 (N j).op, .int .i8 m, .int .i64 (N j).a0, .int .i64 (N j).a1, .int .i64 (N j).a2, .int .i64 (N j).sort, .int .i64 (N j).fn, .int .i64 (N j).num] 39))
      clear h13
      go_wp2_with fail
      go_roundw
      case rel => exact ⟨j + 1, by omega, by go_num, hnx, hx1.out⟩
      case measure => simp [intOf]; omega
    have d13 : ((N j).op == 13) = false := by simpa using h13
    have hws := FitI.start wr (N j) (sortsN N (N j))
    rw [hlm'.out] at hws
    have hws' := Lib.hid hws
    have h13' := Lib.hid h13
    clear hws h13
    go_wp2_with fail
    clear n0 n1 n2 n3 n4 n5 n6 n7 k0
    generalize hnb : wr.heap.size = nb at *
    have hnb' := Lib.hid hnb
    clear hnb
    have hx' := hx
    have hwr : ∃ wq, wq = wr ∧ Hid (FitI nb wq (N j) (sortsN N (N j)) (.slice none 0 0) 0 _) := ⟨wr, rfl, hws'⟩
    clear hws'
    obtain ⟨wq, hwq, hB1⟩ := hwr
    rw [← hwq] at hx' hnb'
    clear hwq hx
    go_loopw [5, 6] (fun z i wr => ∃ k : Nat, k ≤ m ∧ i = .int .i64 k ∧ Hid (FitI nb wq (N j) (sortsN N (N j)) z k wr)) (fun _ i _ => m - (intOf i).toNat)
    case atStart => exact ⟨0, Nat.zero_le _, rfl, hB1.out⟩
    case round =>
    clear hB1
    obtain ⟨k, hk, rfl, hI⟩ := hrel
    have hx2 := Lib.hid (hx'.out.step (by rw [hnb'.out]; exact hI.out.bel))
    obtain ⟨⟨k0, -⟩, -⟩ := hx2.out.cells
    have p1 := hI.out.nd.cell (i := 1) (by omega)
    have p1' : wr.cell? ⟨nb, 1, none⟩ = some (.int .i8 m) := by rw [p1]; show some (Value.int .i8 (N j).len) = _; rw [hlm'.out]
    have hwm : IntKind.i64.wrap (m : Int) = (m : Int) := by rw [IntKind.wrap_i64]; omega
    clear p1
    by_cases hlk : k < m
    · have i2 : decide ((k : Int) < (m : Int)) = true := decide_eq_true (by omega)
      have pa := hI.out.nd.cell (i := 2 + k) (by omega)
      rw [ndF_arg _ (by omega)] at pa
      have hab := hc'.out.argB hlt (k := k) (by rw [hlm'.out]; omega)
      obtain ⟨a, haa⟩ : ∃ a : Nat, (N j).arg k = a := ⟨((N j).arg k).toNat, by omega⟩
      rw [haa] at pa
      have hso := (hx2.out.bel.cell (p := ⟨tb, to_ + a * 8 + 5, none⟩) htb).trans (hnd'.out a (by omega)).2.2.2.2.2.1
      have hsj : sortsN N (N j) k = (N a).sort := by unfold sortsN; rw [haa]; rfl
      have han : (a : Int) < (n : Int) := by omega
      have ha0 : (0 : Int) ≤ (a : Int) := by omega
      have hk0 : (0 : Int) ≤ (k : Int) := by omega
      have hk3 : (k : Int) < 3 := by omega
      have hkm : (k : Int) < (m : Int) := by omega
      have hkM : k ≤ 1000000 := by omega
      have hbA := Lib.hid (((Below.refl wr.heap.size wr).alloc (Nat.le_refl _) (.cells #[.int .i64 (N a).sort] 3)).drew)
      have hlow : Hid (nb < wr.heap.size) := hI.out.nd.lt
      have hndA := Lib.hid (hI.out.nd.of_block (hbA.out.block _ hI.out.nd.lt))
      have hoA := Lib.hid (hI.out.own.below hbA.out (Nat.le_refl _))
      have hblA := Lib.hid (hI.out.bel.trans (hbA.out.mono (by have := hlow.out; omega)))
      have hcA : Hid (∀ r u, (intC (sortsN N (N j)) k)[r]? = some u → (wr.alloc (.cells #[.int .i64 (N a).sort] 3)).drew.cell? ⟨wr.heap.size, r, none⟩ = some u) := fun r u hu => lit_cells wr 3 [.int .i64 (N a).sort] r u (by rw [intC, hsj] at hu; exact hu)
      have h1A : Hid (∀ u ∈ intC (sortsN N (N j)) k, u.oneCell' = true) := fun u hu => by simp [intC] at hu; subst hu; rfl
      have hzA : Hid (nb + 1 ≤ (wr.alloc (.cells #[.int .i64 (N a).sort] 3)).drew.heap.size) := by
        have := hlow.out
        show _ ≤ (wr.alloc _).heap.size; simp; omega
      obtain ⟨i0, hi, hz0, hz1, hz2⟩ := info_parts info_int
      have hi' := Lib.hid hi
      have hz0' := Lib.hid hz0
      have hz1' := Lib.hid hz1
      have hz2' := Lib.hid hz2
      clear hi hz0 hz1 hz2 hsj hab haa
      go_wp2_with fail
      go_region_law (refine step_appRow rfl (.tmp 31) (.tmp 41) 25 3 rfl i0 _ 8 1 Try.underlying25 hi'.out hz0'.out hz1'.out hz2'.out rfl (by decide) (nb + 1) _ k (intC (sortsN N (N j))) rfl hoA.out wr.heap.size 1 rfl (by simp) (fun _ => rfl) hcA.out h1A.out hkM (by decide) hzA.out ?_; intro v' w7 hown7 hb7 hg7; have hI7 : Hid (FitI nb wq (N j) (sortsN N (N j)) v' (k + 1) w7) := ⟨hblA.out.trans (hb7.mono (by omega)), hndA.out.of_block (hb7.block _ (by omega)), hown7⟩; clear hown7 hb7 hg7)
      all_goals go_wp2_with fail
      all_goals go_roundw
      all_goals (first
        | exact ⟨k + 1, by omega, by go_num, hI7.out⟩
        | (simp [intOf]; omega)
        | skip)
    · have i2 : decide ((k : Int) < (m : Int)) = false := decide_eq_false (by omega)
      obtain rfl : k = m := by omega
      have hmm : (N j).len.toNat = k := by rw [hlm'.out]; simp
      have hSR : ∀ i, i < k → R64 (sortsN N (N j) i) := fun i hi => by
        have := hc'.out.argB hlt (k := i) (by rw [hlm'.out]; omega)
        exact (hNR.out _ (by omega)).sort
      have hints := hI.out.own.ints (by omega) hSR
      have hTO := Lib.hid (RTOp_any (N j).op _ k (sortsN N (N j)) wr (hNR.out j hlt).op hints)
      have hfit : Hid (fitN N (N j) = decide (opT (N j).op k (sortsN N (N j)) = ((N j).sort, 0))) := by unfold Hid fitN; rw [if_neg h13'.out, hmm]
      have m0' : wr.cell? ⟨nb, 0, none⟩ = some (.int .i8 (N j).op) := hI.out.nd.cell (i := 0) (by omega)
      obtain ⟨p, hp⟩ : ∃ p, p = opT (N j).op k (sortsN N (N j)) := ⟨_, rfl⟩
      rw [← hp] at hTO hfit
      unfold opV at hTO
      clear hints hSR hp hmm
      go_wp2_with fail
      with_reducible refine hTO.out.mono ?_
      rintro e w6 ⟨rfl, hb6⟩
      have hx6 := Lib.hid (hx2.out.step hb6)
      have hr6 : w6.cell? ⟨nb, 5, none⟩ = some (.int .i64 (N j).sort) := (hb6.cell (p := ⟨nb, 5, none⟩) hI.out.nd.lt).trans (hI.out.nd.cell (i := 5) (by omega))
      clear hTO hb6 m0' k0 p1'
      by_cases hp2 : p.2 = 0
      case neg =>
        have d2 : (p.2 != 0) = true := by simpa using hp2
        have hF : Hid (fitsB n N = false) := upTo_no hlt (by rw [hfit.out]; exact decide_eq_false (fun e => hp2 (by rw [e])))
        clear hp2
        go_wp2_with fail
        go_ret
        exact ⟨by rw [hF.out]; rfl, hx6.out.bel⟩
      have d2 : (p.2 != 0) = false := by rw [hp2]; rfl
      by_cases hp1 : p.1 = (N j).sort
      case neg =>
        have d3 : (p.1 != (N j).sort) = true := by simpa using hp1
        have hF : Hid (fitsB n N = false) := upTo_no hlt (by rw [hfit.out]; exact decide_eq_false (fun e => hp1 (by rw [e])))
        clear hp1 hp2
        go_wp2_with fail
        go_ret
        exact ⟨by rw [hF.out]; rfl, hx6.out.bel⟩
      have d3 : (p.1 != (N j).sort) = false := by rw [hp1]; simp
      have hnx : Hid (upTo (j + 1) (fun i => fitN N (N i)) = true) := upTo_yes fun i hi => by
        by_cases e : i = j
        · subst e
          rw [hfit.out]
          exact decide_eq_true (Prod.ext hp1 hp2)
        · exact (upTo_iff _ _).1 hup.out i (by omega)
      clear hp1 hp2
      go_wp2_with fail
      go_roundw
      case rel => exact ⟨j + 1, by omega, by go_num, hnx, hx6.out⟩
      case measure => simp [intOf]; omega
  · have i1 : decide ((j : Int) < (n : Int)) = false := decide_eq_false (by omega)
    obtain rfl : j = n := by omega
    have hF : Hid (fitsB j N = true) := hup.out
    go_wp2_with fail
    go_ret
    exact ⟨by rw [hF.out]; rfl, hx.out.bel⟩
end Go.Proofs.Ytecmoahadckomaa
