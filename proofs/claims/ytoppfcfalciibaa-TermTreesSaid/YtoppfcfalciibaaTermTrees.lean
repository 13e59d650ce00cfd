/- The law TermTrees: the walk. -/
import Derived.Test.YtoppfcfalciibaaTree
import Derived.Test.YtoppfcfalciibaaClsW
import Derived.Test.YtoppfcfalciibaaTermOnce
namespace Go.Proofs.Ytoppfcfalciibaa
open Go.RowKit Go.Maps

theorem foldl_max_le (g : Nat → Int) (B : Int) : ∀ (l : List Int) (s : Int), s ≤ B → (∀ x ∈ l, g x.toNat ≤ B) → l.foldl (fun s x => max s (g x.toNat)) s ≤ B
  | [], _, h, _ => h
  | a :: l, s, h, hl => foldl_max_le g B l _ (by have := hl a (by simp); show max s (g a.toNat) ≤ B; omega) fun x hx => hl x (by simp [hx])
theorem depth_le {n : Nat} {N : Nat → Nd} (h : CheckP n N) : ∀ i, i < n → gth (fun s x => max s x) N i ≤ i + 1 ∧ foldG (fun s x => max s x) (gth (fun s x => max s x) N) (argsN N i) ≤ i := by
  intro i
  induction i using Nat.strongRecOn with
  | _ i ih =>
    intro hi
    have h1 : foldG (fun s x => max s x) (gth (fun s x => max s x) N) (argsN N i) ≤ i := by
      refine foldl_max_le _ _ _ _ (by omega) fun x hx => ?_
      obtain ⟨h0, h1⟩ := h.argsIn hi hx
      have := (ih x.toNat (by omega) (by omega)).1
      omega
    refine ⟨?_, h1⟩
    rw [gth_eq h hi]
    unfold cap30
    omega
theorem depth_eq {n : Nat} {N : Nat → Nd} (h : CheckP n N) {i : Nat} (hi : i < n) (hn : n ≤ 300) : gth (fun s x => max s x) N i = foldG (fun s x => max s x) (gth (fun s x => max s x) N) (argsN N i) + 1 := by
  have := (depth_le h i hi).2
  rw [gth_eq h hi]
  unfold cap30
  omega
theorem NdIn.argc {w : World} {b o : Nat} {e : Nd} (h : NdIn w b o e) (k : Nat) (hk : k < 3) : w.cell? ⟨b, o + 2 + k, none⟩ = some (.int .i64 (e.arg k)) := by
  obtain ⟨_, _, h2, h3, h4, _⟩ := h
  have hk3 : k = 0 ∨ k = 1 ∨ k = 2 := by omega
  rcases hk3 with rfl | rfl | rfl
  · exact h2
  · exact h3
  · exact h4

def tT (N : Nat → Nd) (i : Nat) : Int := gth (fun s x => s + x) N i
def dT (N : Nat → Nd) (i : Nat) : Int := gth (fun s x => max s x) N i
def sT (N : Nat → Nd) (i k : Nat) : Int := foldG (fun s x => s + x) (gth (fun s x => s + x) N) (argsTo N i k)
def mT (N : Nat → Nd) (i k : Nat) : Int := foldG (fun s x => max s x) (gth (fun s x => max s x) N) (argsTo N i k)
theorem argsTo_len3 (N : Nat → Nd) (i k : Nat) (hk : k ≤ 3) : ((argsTo N i k).length : Int) * 1073741824 ≤ 3221225472 := by
  have := argsTo_len N i k
  omega
theorem tT_range (N : Nat → Nd) (i : Nat) : 0 ≤ tT N i ∧ tT N i ≤ 1073741824 := gth_range opSum N i
theorem dT_range (N : Nat → Nd) (i : Nat) : 0 ≤ dT N i ∧ dT N i ≤ 1073741824 := gth_range opMax N i
theorem sT_range (N : Nat → Nd) (i k : Nat) (hk : k ≤ 3) : 0 ≤ sT N i k ∧ sT N i k ≤ 3221225472 := by
  have h := foldG_range opSum (gth_range opSum N) (argsTo N i k)
  have := argsTo_len3 N i k hk
  exact ⟨h.1, Int.le_trans h.2 this⟩
theorem mT_range (N : Nat → Nd) (i k : Nat) (hk : k ≤ 3) : 0 ≤ mT N i k ∧ mT N i k ≤ 3221225472 := by
  have h := foldG_range opMax (gth_range opMax N) (argsTo N i k)
  have := argsTo_len3 N i k hk
  exact ⟨h.1, Int.le_trans h.2 this⟩
theorem sT_zero (N : Nat → Nd) (i : Nat) : sT N i 0 = 0 := by simp [sT, argsTo, foldG]
theorem mT_zero (N : Nat → Nd) (i : Nat) : mT N i 0 = 0 := by simp [mT, argsTo, foldG]
theorem sT_succ (N : Nat → Nd) (i k : Nat) (h : (k : Int) < (N i).len) : sT N i (k + 1) = sT N i k + tT N ((N i).arg k).toNat := by unfold sT; rw [argsTo_in N i k h, foldG_snoc]; rfl
theorem mT_succ (N : Nat → Nd) (i k : Nat) (h : (k : Int) < (N i).len) : mT N i (k + 1) = max (mT N i k) (dT N ((N i).arg k).toNat) := by unfold mT; rw [argsTo_in N i k h, foldG_snoc]; rfl
theorem argsTo_end (N : Nat → Nd) (i k : Nat) (h0 : (N i).len ≤ 3) (h : (N i).len ≤ k) : argsTo N i k = argsN N i := by unfold argsN argsTo; rw [Nat.min_eq_right (by omega), Nat.min_eq_right (by omega)]
theorem tT_end {n : Nat} {N : Nat → Nd} (h : CheckP n N) {i k : Nat} (hi : i < n) (h0 : (N i).len ≤ 3) (hk : (N i).len ≤ k) : tT N i = min (1 + sT N i k) 1073741824 := by
  unfold tT sT
  rw [argsTo_end N i k h0 hk, gth_eq h hi]
  unfold cap30
  omega
theorem dT_end {n : Nat} {N : Nat → Nd} (h : CheckP n N) {i k : Nat} (hi : i < n) (hn : n ≤ 300) (h0 : (N i).len ≤ 3) (hk : (N i).len ≤ k) : dT N i = mT N i k + 1 ∧ dT N i ≤ i + 1 := by
  refine ⟨?_, (depth_le h i hi).1⟩
  unfold dT mT
  rw [argsTo_end N i k h0 hk, depth_eq h hi hn]
theorem Tree_t (v : Value) (m id : Nat) (N : Nat → Nd) (w : World) (ht : NdsAt w v m N) (hch : CheckP m N) (hid : id < m) (hm : m ≤ 1000000) (a : Int) (ha : a = id) :
    Calls Try.prog 20 #[.agg #[v], .int .i64 a] w fun e w' => e = .returned (.int .i64 (tT N id)) ∧ Below w.heap.size w w' := by subst ha; exact Tree_any v m id N w ht hch hid hm
theorem Depth_t (v : Value) (m id : Nat) (N : Nat → Nd) (w : World) (ht : NdsAt w v m N) (hch : CheckP m N) (hid : id < m) (hm : m ≤ 1000000) (a : Int) (ha : a = id) :
    Calls Try.prog 21 #[.agg #[v], .int .i64 a] w fun e w' => e = .returned (.int .i64 (dT N id)) ∧ Below w.heap.size w w' := by subst ha; exact Depth_any v m id N w ht hch hid hm

set_option maxHeartbeats 4000000 in
set_option maxRecDepth 100000 in
theorem Trees_main (v : Value) (n : Nat) (N : Nat → Nd) (w : World) (hv : NdsAt w v n N) (hn : n ≤ 300) (hch : CheckP n N) :
    Calls Try.prog 5 #[.agg #[v]] w fun x w' => x = .returned (.bool true) ∧ Below w.heap.size w w' := by
  have hv' := Lib.hid hv
  obtain ⟨A, c, rfl, hc, _, hcs⟩ := hv
  have h2 := hch.two
  obtain ⟨b, o, rfl, hbl, hcs⟩ := hcs (by omega)
  have hcs' := Lib.hid hcs
  clear hcs hc
  have hx0 := (Bx.nil w).one (.slice (some ⟨b, o, none⟩) n c) 24
  have hd : Hid (decide (300 < n) = false) := by unfold Hid; simp; omega
  have hy := Lib.hid (check_yes hch)
  have hch' := Lib.hid hch
  clear hch
  go_enter Try.func5, Try.ntmps5
  go_wp2_with fail
  refine (Great5_any _ n N _ (hv'.out.below hx0.bel)).mono ?_
  rintro x w2 ⟨rfl, hb2⟩
  rw [hd.out]
  have hx2 := hx0.step hb2
  obtain ⟨⟨q0, _⟩, -⟩ := hx2.cells
  go_wp2_with fail
  refine (RCheck_any _ n N w2 (hv'.out.below hx2.bel) (by omega)).mono ?_
  rintro x w3 ⟨rfl, hb3⟩
  rw [hy.out]
  have hx3 := hx2.step hb3
  clear q0 hb2 hb3 hx2 hx0
  obtain ⟨⟨q0, _⟩, -⟩ := hx3.cells
  go_wp2_with fail
  clear q0
  go_loopw [18] (fun i wr => ∃ k : Nat, k ≤ n ∧ i = .int .i64 k ∧ Bx w ((w.heap.size, 0, .slice (some ⟨b, o, none⟩) n c) :: []) wr) (fun i _ => n - (intOf i).toNat)
  case atStart => exact ⟨0, Nat.zero_le _, rfl, hx3⟩
  case round =>
    obtain ⟨i, hi, rfl, hx⟩ := hrel
    obtain ⟨⟨q0, ql⟩, -⟩ := hx.cells
    by_cases hlt : i < n
    · obtain ⟨e0, e1, e2, e3, e4, e5, e6, e7⟩ := (hcs'.out i hlt).below hx.bel hbl
      have hst := hch'.out.all i hlt
      have hl0 := hst.len0
      have hl3 := hst.len3
      have hwl : IntKind.i64.wrap (N i).len = (N i).len := by rw [IntKind.wrap_i64]; omega
      clear hst
      go_wp2_with fail
      go_loopw [6, 4, 5] (fun k s d wr => ∃ j : Nat, (j : Int) ≤ (N i).len ∧ k = .int .i64 j ∧ s = .int .i64 (1 + sT N i j) ∧ d = .int .i64 (mT N i j) ∧ Bx w ((w.heap.size, 0, .slice (some ⟨b, o, none⟩) n c) :: []) wr) (fun k _ _ _ => 3 - (intOf k).toNat)
      case atStart => exact ⟨0, by omega, rfl, by rw [sT_zero]; rfl, by rw [mT_zero], hx⟩
      case round =>
        obtain ⟨j, hj, rfl, rfl, rfl, hy1⟩ := hrel
        obtain ⟨⟨r0, rl⟩, -⟩ := hy1.cells
        have hnd := (hcs'.out i hlt).below hy1.bel hbl
        have rj := hnd.argc
        have r1 := hnd.2.1
        clear hnd
        by_cases hjl : (j : Int) < (N i).len
        · obtain ⟨a0, a1, a2⟩ := hch'.out.argB hlt hjl
          have rj' := rj j a2
          clear rj
          have i2 : decide ((j : Int) < (N i).len) = true := decide_eq_true hjl
          have hla : ((N i).arg j).toNat < n := by omega
          have hja : Hid ((N i).arg j = (((N i).arg j).toNat : Int)) := by unfold Hid; omega
          obtain ⟨s0, s1⟩ := sT_range N i j (by omega)
          obtain ⟨m0, m1⟩ := mT_range N i j (by omega)
          obtain ⟨t0, t1⟩ := tT_range N ((N i).arg j).toNat
          have hss := Lib.hid (sT_succ N i j hjl)
          have hms := Lib.hid (mT_succ N i j hjl)
          have j3 : (j : Int) < 3 := by omega
          go_wp2_with fail
          refine region_cls (fun x => x.cell? ⟨w.heap.size, 0, none⟩ = some (.slice (some ⟨b, o, none⟩) n c) ∧ x.cell? ⟨b, o + i * 8 + 2 + j, none⟩ = some (.int .i64 ((N i).arg j)) ∧ Bx w ((w.heap.size, 0, .slice (some ⟨b, o, none⟩) n c) :: []) x) (by kernel_rfl) (by kernel_rfl) ⟨r0, rj', hy1.drew⟩ ?_
          repeat (first
            | go_big_quiet_skip
            | (go_big_quiet_want; first
              | (go_big_quiet_op; go_big_quiet_on)
              | (unfold Oper.quiet; apply Exists.intro; refine ⟨fun x hx => ?_, ?_⟩; (obtain ⟨c0, c1, cb⟩ := hx; unfold Oper.quietAt; first
                  | (go_simp; exact ⟨rfl, rfl⟩)
                  | (go_simp; exact rfl)
                  | (go_simp; done)
                  | (go_simp; go_at_call 20; refine (Tree_t _ n ((N i).arg j).toNat N x (hv'.out.below cb.bel) hch'.out hla (by omega) _ hja.out).mono ?_; rintro e w' ⟨rfl, hb'⟩; exact ⟨rfl, (cb.step hb').cells.1.1, (hb'.cell (p := ⟨b, o + i * 8 + 2 + j, none⟩) (Nat.lt_of_lt_of_le hbl cb.bel.size)).trans c1, cb.step hb'⟩)
                  | fail); go_simp; go_big_quiet_on)))
          refine wpQuiet_nil ?_
          rintro w5 ⟨c0, c1, cb5⟩
          go_wp2_with fail
          refine region_cls (fun x => x.cell? ⟨w.heap.size, 0, none⟩ = some (.slice (some ⟨b, o, none⟩) n c) ∧ x.cell? ⟨b, o + i * 8 + 2 + j, none⟩ = some (.int .i64 ((N i).arg j)) ∧ Bx w ((w.heap.size, 0, .slice (some ⟨b, o, none⟩) n c) :: []) x) (by kernel_rfl) (by kernel_rfl) ⟨c0, c1, cb5.drew⟩ ?_
          repeat (first
            | go_big_quiet_skip
            | (go_big_quiet_want; first
              | (go_big_quiet_op; go_big_quiet_on)
              | (unfold Oper.quiet; apply Exists.intro; refine ⟨fun x hx => ?_, ?_⟩; (obtain ⟨c0, c1, cb⟩ := hx; unfold Oper.quietAt; first
                  | (go_simp; exact ⟨rfl, rfl⟩)
                  | (go_simp; exact rfl)
                  | (go_simp; done)
                  | (go_simp; go_at_call 21; refine (Depth_t _ n ((N i).arg j).toNat N x (hv'.out.below cb.bel) hch'.out hla (by omega) _ hja.out).mono ?_; rintro e w' ⟨rfl, hb'⟩; exact ⟨rfl, (cb.step hb').cells.1.1, (hb'.cell (p := ⟨b, o + i * 8 + 2 + j, none⟩) (Nat.lt_of_lt_of_le hbl cb.bel.size)).trans c1, cb.step hb'⟩)
                  | fail); go_simp; go_big_quiet_on)))
          refine wpQuiet_nil ?_
          rintro w6 ⟨_, _, cb6⟩
          go_wp2_with fail
          refine ⟨⟨j + 1, by omega, by go_num, ?_, ?_, cb6⟩, by simp [intOf]; omega⟩
          · rw [hss.out, IntKind.wrap_i64]; congr 1; omega
          · rw [hms.out]; congr 1; split <;> omega
        · have i2 : decide ((j : Int) < (N i).len) = false := decide_eq_false hjl
          obtain ⟨s0, s1⟩ := sT_range N i j (by omega)
          obtain ⟨m0, m1⟩ := mT_range N i j (by omega)
          have hte := Lib.hid (tT_end hch'.out hlt hl3 (k := j) (by omega))
          have hde := Lib.hid (dT_end hch'.out hlt hn hl3 (k := j) (by omega))
          clear rj
          have hcase : (1 + sT N i j ≤ 1073741824 ∧ Hid (tT N i = 1 + sT N i j)) ∨ (1073741824 < 1 + sT N i j ∧ Hid (tT N i = 1073741824)) := by
            unfold Hid
            have := hte.out
            omega
          have hm1 : mT N i j ≤ i := by have := hde.out; omega
          have hm2 := Lib.hid hde.out.1
          go_wp2_with fail
          rcases hcase with ⟨hc1, hc2⟩ | ⟨hc1, hc2⟩
          · refine (Tree_t _ n i N wr (hv'.out.below hy1.bel) hch'.out hlt (by omega) _ rfl).mono ?_
            rintro x w5 ⟨rfl, hb5⟩
            rw [hc2.out]
            have hy5 := hy1.step hb5
            obtain ⟨⟨r5, _⟩, -⟩ := hy5.cells
            go_wp2_with fail
            refine (Depth_t _ n i N w5 (hv'.out.below hy5.bel) hch'.out hlt (by omega) _ rfl).mono ?_
            rintro x w6 ⟨rfl, hb6⟩
            rw [hm2.out]
            have hy6 := hy5.step hb6
            obtain ⟨⟨r6, _⟩, -⟩ := hy6.cells
            go_wp2_with fail
            refine (Depth_t _ n i N w6 (hv'.out.below hy6.bel) hch'.out hlt (by omega) _ rfl).mono ?_
            rintro x w7 ⟨rfl, hb7⟩
            rw [hm2.out]
            have hy7 := hy6.step hb7
            go_wp2_with fail
            go_roundw
            case rel => exact ⟨i + 1, by omega, by go_num, hy7⟩
            case measure => simp [intOf]; omega
          · refine (Tree_t _ n i N wr (hv'.out.below hy1.bel) hch'.out hlt (by omega) _ rfl).mono ?_
            rintro x w5 ⟨rfl, hb5⟩
            rw [hc2.out]
            have hy5 := hy1.step hb5
            obtain ⟨⟨r5, _⟩, -⟩ := hy5.cells
            go_wp2_with fail
            refine (Depth_t _ n i N w5 (hv'.out.below hy5.bel) hch'.out hlt (by omega) _ rfl).mono ?_
            rintro x w6 ⟨rfl, hb6⟩
            rw [hm2.out]
            have hy6 := hy5.step hb6
            obtain ⟨⟨r6, _⟩, -⟩ := hy6.cells
            go_wp2_with fail
            refine (Depth_t _ n i N w6 (hv'.out.below hy6.bel) hch'.out hlt (by omega) _ rfl).mono ?_
            rintro x w7 ⟨rfl, hb7⟩
            rw [hm2.out]
            have hy7 := hy6.step hb7
            go_wp2_with fail
            go_roundw
            case rel => exact ⟨i + 1, by omega, by go_num, hy7⟩
            case measure => simp [intOf]; omega
    · obtain rfl : i = n := by omega
      go_wp2_with fail
      refine (wakes05_any _).mono ?_
      rintro x w6 ⟨rfl, hb6⟩
      go_wp2
      go_ret
      exact ⟨rfl, (hx.step hb6).bel⟩

set_option maxHeartbeats 1000000 in
set_option maxRecDepth 100000 in
theorem Trees_any (v : Value) (n : Nat) (N : Nat → Nd) (w : World) (hv : NdsAt w v n N) :
    Calls Try.prog 5 #[.agg #[v]] w fun x w' => x = .returned (.bool true) ∧ Below w.heap.size w w' := by
  have hv' := Lib.hid hv
  obtain ⟨A, c, rfl, hc, _, _⟩ := hv
  have hx0 := (Bx.nil w).one (.slice A n c) 24
  by_cases hbig : 300 < n
  · have hd : Hid (decide (300 < n) = true) := by unfold Hid; simpa using hbig
    go_enter Try.func5, Try.ntmps5
    go_wp2_with fail
    refine (Great5_any _ n N _ (hv'.out.below hx0.bel)).mono ?_
    rintro x w2 ⟨rfl, hb2⟩
    rw [hd.out]
    go_wp2_with fail
    refine (wakes05_any w2).mono ?_
    rintro x w3 ⟨rfl, hb3⟩
    go_wp2
    go_ret
    exact ⟨rfl, ((hx0.step hb2).step hb3).bel⟩
  have hd : Hid (decide (300 < n) = false) := by unfold Hid; simpa using hbig
  have hn : n ≤ 300 := by omega
  clear hbig
  rcases Classical.em (CheckP n N) with hch | hch
  · exact Trees_main (.slice A n c) n N w hv'.out hn hch
  · have hy := Lib.hid (check_not hch)
    clear hch
    go_enter Try.func5, Try.ntmps5
    go_wp2_with fail
    refine (Great5_any _ n N _ (hv'.out.below hx0.bel)).mono ?_
    rintro x w2 ⟨rfl, hb2⟩
    rw [hd.out]
    have hx2 := hx0.step hb2
    obtain ⟨⟨q0, _⟩, -⟩ := hx2.cells
    go_wp2_with fail
    refine (RCheck_any _ n N w2 (hv'.out.below hx2.bel) (by omega)).mono ?_
    rintro x w3 ⟨rfl, hb3⟩
    rw [hy.out]
    go_wp2_with fail
    refine (wakes05_any w3).mono ?_
    rintro x w4 ⟨rfl, hb4⟩
    go_wp2
    go_ret
    exact ⟨rfl, ((hx2.step hb3).step hb4).bel⟩
end Go.Proofs.Ytoppfcfalciibaa
