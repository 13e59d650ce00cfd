/- A maker's ways of equalities, choices and differences. (Begun by wip/ways12.gen.py; the last two turned by hand.) -/
import Derived.Test.YtecmoahadckomaaZMkDMkEMkF
import Derived.Test.YtecmoahadckomaaZHeadW
import Derived.StillTailTactics
namespace Go.Proofs.Ytecmoahadckomaa
open Go.RowKit Go.Maps
set_option maxRecDepth 100000
section
variable {w : World} {g : Nat} {most : Int} {s : CSt} {nd : Nd} {vv : Value} {V : Nat → Int}

set_option maxHeartbeats 4000000 in
theorem Way_equality (h : WayH w g most s nd vv V) (ho : nd.op = 6) : Calls Try.prog 40 #[.pointer (some ⟨g, 0, none⟩), ndV nd, vv] w (MkrPost g most (WayR most s nd V) w) := by
  have hk : nd.len.toNat = 2 := h.alen ho (by decide) rfl
  have hv := h.v
  have hins := Lib.hid h.ins
  have hR0 := h.R (i := 0) (by omega)
  have hR1 := h.R (i := 1) (by omega)
  have hlt := h.mkr.lt
  rw [hk] at hv hins
  have hx0 := Lib.hid (ndRow w nd)
  have hM1 := Lib.hid ((h.mkr.below hx0.out.bel).drew)
  obtain ⟨b, o, c, rfl, hb, hc⟩ := ints_open (hv.below hx0.out.bel) (by omega)
  obtain ⟨⟨c0, -⟩, -, -, -, -, -, -, ⟨c7, -⟩, -⟩ := hx0.out.cells
  simp only [Nat.zero_add, Nat.reduceAdd] at c7
  have v0 := hc 0 (by omega)
  have v1 := hc 1 (by omega)
  rw [Nat.add_zero] at v0
  have hr := Lib.hid (fun s' x hp => WayR.eq (most := most) (s := s) (V := V) ho s' x hp)
  have hws : Hid (w.heap.size < (w.alloc (.cells #[.int .i8 nd.op, .int .i8 nd.len, .int .i64 nd.a0, .int .i64 nd.a1, .int .i64 nd.a2, .int .i64 nd.sort, .int .i64 nd.fn, .int .i64 nd.num] 39)).drew.heap.size) := by unfold Hid; simp
  generalize hw1 : w.alloc (.cells #[.int .i8 nd.op, .int .i8 nd.len, .int .i64 nd.a0, .int .i64 nd.a1, .int .i64 nd.a2, .int .i64 nd.sort, .int .i64 nd.fn, .int .i64 nd.num] 39) = w1 at *
  have hNo := Lib.hid (MkEqual_any g most s (V 0) (V 1) w1.drew hM1.out h.chk (by have := h.few; omega) hR0 hR1 h.most (fun _ => ⟨hins.out 0 (by omega), hins.out 1 (by omega)⟩))
  have hB1 := Lib.hid (But.of hx0.out.bel.drew [g])
  have hg : Hid (w.heap.size ≠ g) := by unfold Hid; omega
  clear h ho hv hc
  unfold ndV
  go_enter Try.func40, Try.ntmps40
  go_upto_region 1 with fail
  clear hw1
  go_still_tail 7, (by kernel_rfl)
  change wpList _ _ _ _ _ w1.drew
  go_wp2_with fail
  refine hNo.out.mono ?_
  rintro e w8 ⟨s', x, rfl, hR, hM8, hB8⟩
  have hR' := Lib.hid (hr.out s' x hR)
  have hM8' := Lib.hid hM8
  have hB8' := Lib.hid (hB1.out.next hB8 hx0.out.bel.size)
  clear hR hM8 hB8
  go_wp2_with fail
  go_ret
  exact ⟨s', x, rfl, hR'.out, hM8'.out, hB8'.out⟩

set_option maxHeartbeats 4000000 in
theorem Way_choice (h : WayH w g most s nd vv V) (ho : nd.op = 7) : Calls Try.prog 41 #[.pointer (some ⟨g, 0, none⟩), ndV nd, vv] w (MkrPost g most (WayR most s nd V) w) := by
  have hk : nd.len.toNat = 3 := h.alen ho (by decide) rfl
  have hv := h.v
  have hins := Lib.hid h.ins
  have hR0 := h.R (i := 0) (by omega)
  have hR1 := h.R (i := 1) (by omega)
  have hR2 := h.R (i := 2) (by omega)
  have hlt := h.mkr.lt
  rw [hk] at hv hins
  have hx0 := Lib.hid (ndRow w nd)
  have hM1 := Lib.hid ((h.mkr.below hx0.out.bel).drew)
  obtain ⟨b, o, c, rfl, hb, hc⟩ := ints_open (hv.below hx0.out.bel) (by omega)
  obtain ⟨⟨c0, -⟩, -, -, -, -, -, -, ⟨c7, -⟩, -⟩ := hx0.out.cells
  simp only [Nat.zero_add, Nat.reduceAdd] at c7
  have v0 := hc 0 (by omega)
  have v1 := hc 1 (by omega)
  have v2 := hc 2 (by omega)
  rw [Nat.add_zero] at v0
  have hr := Lib.hid (fun s' x hp => WayR.ite (most := most) (s := s) (V := V) ho s' x hp)
  have hws : Hid (w.heap.size < (w.alloc (.cells #[.int .i8 nd.op, .int .i8 nd.len, .int .i64 nd.a0, .int .i64 nd.a1, .int .i64 nd.a2, .int .i64 nd.sort, .int .i64 nd.fn, .int .i64 nd.num] 39)).drew.heap.size) := by unfold Hid; simp
  generalize hw1 : w.alloc (.cells #[.int .i8 nd.op, .int .i8 nd.len, .int .i64 nd.a0, .int .i64 nd.a1, .int .i64 nd.a2, .int .i64 nd.sort, .int .i64 nd.fn, .int .i64 nd.num] 39) = w1 at *
  have hNo := Lib.hid (MkIte_any g most s (V 0) (V 1) (V 2) w1.drew hM1.out h.chk (by have := h.few; omega) hR0 hR1 hR2 h.most (fun _ => ⟨hins.out 0 (by omega), hins.out 1 (by omega), hins.out 2 (by omega)⟩))
  have hB1 := Lib.hid (But.of hx0.out.bel.drew [g])
  have hg : Hid (w.heap.size ≠ g) := by unfold Hid; omega
  clear h ho hv hc
  unfold ndV
  go_enter Try.func41, Try.ntmps41
  go_upto_region 1 with fail
  clear hw1
  go_still_tail 10, (by kernel_rfl)
  change wpList _ _ _ _ _ w1.drew
  go_wp2_with fail
  refine hNo.out.mono ?_
  rintro e w8 ⟨s', x, rfl, hR, hM8, hB8⟩
  have hR' := Lib.hid (hr.out s' x hR)
  have hM8' := Lib.hid hM8
  have hB8' := Lib.hid (hB1.out.next hB8 hx0.out.bel.size)
  clear hR hM8 hB8
  go_wp2_with fail
  go_ret
  exact ⟨s', x, rfl, hR'.out, hM8'.out, hB8'.out⟩

set_option maxHeartbeats 4000000 in
theorem Way_le (h : WayH w g most s nd vv V) (ho : nd.op = 8) : Calls Try.prog 42 #[.pointer (some ⟨g, 0, none⟩), ndV nd, vv] w (MkrPost g most (WayR most s nd V) w) := by
  have hk : nd.len.toNat = 2 := h.alen ho (by decide) rfl
  have hv := h.v
  have hins := Lib.hid h.ins
  have hR0 := h.R (i := 0) (by omega)
  have hR1 := h.R (i := 1) (by omega)
  have hlt := h.mkr.lt
  rw [hk] at hv hins
  have hx0 := Lib.hid (ndRow w nd)
  have hM1 := Lib.hid ((h.mkr.below hx0.out.bel).drew)
  obtain ⟨b, o, c, rfl, hb, hc⟩ := ints_open (hv.below hx0.out.bel) (by omega)
  obtain ⟨⟨c0, -⟩, -, -, -, -, -, -, ⟨c7, -⟩, -⟩ := hx0.out.cells
  simp only [Nat.zero_add, Nat.reduceAdd] at c7
  have v0 := hc 0 (by omega)
  have v1 := hc 1 (by omega)
  rw [Nat.add_zero] at v0
  have hr := Lib.hid (fun s' x hp => WayR.le (most := most) (s := s) (V := V) ho s' x hp)
  have hws : Hid (w.heap.size < (w.alloc (.cells #[.int .i8 nd.op, .int .i8 nd.len, .int .i64 nd.a0, .int .i64 nd.a1, .int .i64 nd.a2, .int .i64 nd.sort, .int .i64 nd.fn, .int .i64 nd.num] 39)).drew.heap.size) := by unfold Hid; simp
  generalize hw1 : w.alloc (.cells #[.int .i8 nd.op, .int .i8 nd.len, .int .i64 nd.a0, .int .i64 nd.a1, .int .i64 nd.a2, .int .i64 nd.sort, .int .i64 nd.fn, .int .i64 nd.num] 39) = w1 at *
  have hNo := Lib.hid (MkDiff_any g most s (V 0) (V 1) 0 w1.drew hM1.out (by have := h.few; omega) hR0 hR1 R64_0 h.most)
  have hB1 := Lib.hid (But.of hx0.out.bel.drew [g])
  have hg : Hid (w.heap.size ≠ g) := by unfold Hid; omega
  clear h ho hv hc
  unfold ndV
  go_enter Try.func42, Try.ntmps42
  go_upto_region 1 with fail
  clear hw1
  go_still_tail 7, (by kernel_rfl)
  change wpList _ _ _ _ _ w1.drew
  go_wp2_with fail
  refine hNo.out.mono ?_
  rintro e w8 ⟨s', x, rfl, hR, hM8, hB8⟩
  have hR' := Lib.hid (hr.out s' x hR)
  have hM8' := Lib.hid hM8
  have hB8' := Lib.hid (hB1.out.next hB8 hx0.out.bel.size)
  clear hR hM8 hB8
  go_wp2_with fail
  go_ret
  exact ⟨s', x, rfl, hR'.out, hM8'.out, hB8'.out⟩

set_option maxHeartbeats 4000000 in
theorem Way_lt (h : WayH w g most s nd vv V) (ho : nd.op = 9) : Calls Try.prog 43 #[.pointer (some ⟨g, 0, none⟩), ndV nd, vv] w (MkrPost g most (WayR most s nd V) w) := by
  have hk : nd.len.toNat = 2 := h.alen ho (by decide) rfl
  have hv := h.v
  have hins := Lib.hid h.ins
  have hR0 := h.R (i := 0) (by omega)
  have hR1 := h.R (i := 1) (by omega)
  have hlt := h.mkr.lt
  rw [hk] at hv hins
  have hx0 := Lib.hid (ndRow w nd)
  have hM1 := Lib.hid ((h.mkr.below hx0.out.bel).drew)
  obtain ⟨b, o, c, rfl, hb, hc⟩ := ints_open (hv.below hx0.out.bel) (by omega)
  obtain ⟨⟨c0, -⟩, -, -, -, -, -, -, ⟨c7, -⟩, -⟩ := hx0.out.cells
  simp only [Nat.zero_add, Nat.reduceAdd] at c7
  have v0 := hc 0 (by omega)
  have v1 := hc 1 (by omega)
  rw [Nat.add_zero] at v0
  have hr := Lib.hid (fun s' x hp => WayR.lt (most := most) (s := s) (V := V) ho s' x hp)
  have hws : Hid (w.heap.size < (w.alloc (.cells #[.int .i8 nd.op, .int .i8 nd.len, .int .i64 nd.a0, .int .i64 nd.a1, .int .i64 nd.a2, .int .i64 nd.sort, .int .i64 nd.fn, .int .i64 nd.num] 39)).drew.heap.size) := by unfold Hid; simp
  generalize hw1 : w.alloc (.cells #[.int .i8 nd.op, .int .i8 nd.len, .int .i64 nd.a0, .int .i64 nd.a1, .int .i64 nd.a2, .int .i64 nd.sort, .int .i64 nd.fn, .int .i64 nd.num] 39) = w1 at *
  have hNo := Lib.hid (MkDiff_any g most s (V 0) (V 1) (-1) w1.drew hM1.out (by have := h.few; omega) hR0 hR1 ⟨by decide, by decide⟩ h.most)
  have hB1 := Lib.hid (But.of hx0.out.bel.drew [g])
  have hg : Hid (w.heap.size ≠ g) := by unfold Hid; omega
  clear h ho hv hc
  unfold ndV
  go_enter Try.func43, Try.ntmps43
  go_upto_region 1 with fail
  clear hw1
  go_still_tail 7, (by kernel_rfl)
  change wpList _ _ _ _ _ w1.drew
  go_wp2_with fail
  refine hNo.out.mono ?_
  rintro e w8 ⟨s', x, rfl, hR, hM8, hB8⟩
  have hR' := Lib.hid (hr.out s' x hR)
  have hM8' := Lib.hid hM8
  have hB8' := Lib.hid (hB1.out.next hB8 hx0.out.bel.size)
  clear hR hM8 hB8
  go_wp2_with fail
  go_ret
  exact ⟨s', x, rfl, hR'.out, hM8'.out, hB8'.out⟩

set_option maxHeartbeats 4000000 in
theorem Way_difference (h : WayH w g most s nd vv V) (ho : nd.op = 12) : Calls Try.prog 46 #[.pointer (some ⟨g, 0, none⟩), ndV nd, vv] w (MkrPost g most (WayR most s nd V) w) := by
  have hk : nd.len.toNat = 2 := h.alen ho (by decide) rfl
  have hv := h.v
  have hins := Lib.hid h.ins
  have hR0 := h.R (i := 0) (by omega)
  have hR1 := h.R (i := 1) (by omega)
  have hlt := h.mkr.lt
  rw [hk] at hv hins
  have hx0 := Lib.hid (ndRow w nd)
  have hM1 := Lib.hid ((h.mkr.below hx0.out.bel).drew)
  obtain ⟨b, o, c, rfl, hb, hc⟩ := ints_open (hv.below hx0.out.bel) (by omega)
  obtain ⟨⟨c0, -⟩, -, -, -, -, -, -, ⟨c7, -⟩, -⟩ := hx0.out.cells
  simp only [Nat.zero_add, Nat.reduceAdd] at c7
  have v0 := hc 0 (by omega)
  have v1 := hc 1 (by omega)
  rw [Nat.add_zero] at v0
  have hr := Lib.hid (fun s' x hp => WayR.diff (most := most) (s := s) (V := V) ho s' x hp)
  have hws : Hid (w.heap.size < (w.alloc (.cells #[.int .i8 nd.op, .int .i8 nd.len, .int .i64 nd.a0, .int .i64 nd.a1, .int .i64 nd.a2, .int .i64 nd.sort, .int .i64 nd.fn, .int .i64 nd.num] 39)).drew.heap.size) := by unfold Hid; simp
  generalize hw1 : w.alloc (.cells #[.int .i8 nd.op, .int .i8 nd.len, .int .i64 nd.a0, .int .i64 nd.a1, .int .i64 nd.a2, .int .i64 nd.sort, .int .i64 nd.fn, .int .i64 nd.num] 39) = w1 at *
  have hNo := Lib.hid (MkDiff_any g most s (V 0) (V 1) nd.num w1.drew hM1.out (by have := h.few; omega) hR0 hR1 h.nR.num h.most)
  have hB1 := Lib.hid (But.of hx0.out.bel.drew [g])
  have hg : Hid (w.heap.size ≠ g) := by unfold Hid; omega
  clear h ho hv hc
  unfold ndV
  go_enter Try.func46, Try.ntmps46
  go_upto_region 1 with fail
  clear hw1
  go_still_tail 9, (by kernel_rfl)
  change wpList _ _ _ _ _ w1.drew
  go_wp2_with fail
  refine hNo.out.mono ?_
  rintro e w8 ⟨s', x, rfl, hR, hM8, hB8⟩
  have hR' := Lib.hid (hr.out s' x hR)
  have hM8' := Lib.hid hM8
  have hB8' := Lib.hid (hB1.out.next hB8 hx0.out.bel.size)
  clear hR hM8 hB8
  go_wp2_with fail
  go_ret
  exact ⟨s', x, rfl, hR'.out, hM8'.out, hB8'.out⟩

set_option maxHeartbeats 4000000 in
theorem Way_number (h : WayH w g most s nd vv V) (ho : nd.op = 10) : Calls Try.prog 44 #[.pointer (some ⟨g, 0, none⟩), ndV nd, vv] w (MkrPost g most (WayR most s nd V) w) := by
  have hlt := h.mkr.lt
  have hx0 := Lib.hid (ndRow w nd)
  have hM1 := Lib.hid ((h.mkr.below hx0.out.bel).drew)
  obtain ⟨⟨c0, -⟩, -, -, -, -, -, -, ⟨c7, -⟩, -⟩ := hx0.out.drew.cells
  simp only [Nat.zero_add, Nat.reduceAdd] at c7
  obtain ⟨TA, tc, q0, q1, -, -, -, hN⟩ := hM1.out.cells
  have hr := Lib.hid (fun m M x er hp => WayR.num (most := most) (s := s) (V := V) ho m M x er hp)
  have hws : Hid (w.heap.size < (w.alloc (.cells #[.int .i8 nd.op, .int .i8 nd.len, .int .i64 nd.a0, .int .i64 nd.a1, .int .i64 nd.a2, .int .i64 nd.sort, .int .i64 nd.fn, .int .i64 nd.num] 39)).drew.heap.size) := by unfold Hid; simp
  generalize hw1 : w.alloc (.cells #[.int .i8 nd.op, .int .i8 nd.len, .int .i64 nd.a0, .int .i64 nd.a1, .int .i64 nd.a2, .int .i64 nd.sort, .int .i64 nd.fn, .int .i64 nd.num] 39) = w1 at *
  have hNo := Lib.hid (OPut_any (.slice TA s.n tc) s.n s.N 1 nd.num most w1.drew hN (by have := h.few; omega) ⟨by decide, by decide⟩ h.nR.num h.most)
  have hB1 := Lib.hid (But.of hx0.out.bel.drew [g])
  have hg : Hid (w.heap.size ≠ g) := by unfold Hid; omega
  have hK8 := Lib.hid (fun (x : World) (hB : But [g] w1.drew.heap.size w1.drew x) (hMx : ∃ s', MkrAt x g most s') => (⟨by obtain ⟨s', hMx⟩ := hMx; obtain ⟨_, _, _, r1, _⟩ := hMx.cells; exact r1, (hB.cell (p := ⟨w.heap.size, 7, none⟩) hws.out (by have := hg.out; simpa using this)).trans c7⟩ : x.cell? ⟨g, 1, none⟩ = some (.int .i64 most) ∧ x.cell? ⟨w.heap.size, 7, none⟩ = some (.int .i64 nd.num)))
  have kS0 := hK8.out w1.drew (But.refl _ _ _) ⟨s, hM1.out⟩
  clear h ho hN
  unfold ndV
  go_enter Try.func44, Try.ntmps44
  go_upto_region 1 with fail
  clear hw1
  refine wp_region_head 11 _ (by kernel_rfl) (by kernel_rfl) (fun _ _ _ h => h) (Or.inl ⟨by rfl, by intro w; go_simp; try with_reducible rfl⟩) ?_
  simp only [Nat.reduceSub, List.take_succ_cons, List.take_zero]
  repeat still_step
  try refine wpStill_nil ?_
  change wpAny _ _ _ _ (5 + 1) _ _ _
  refine wpAny_ready (rs := [11]) (by kernel_rfl) (by simp) (AllReady.cons rfl (fun K hK => ?_) AllReady.nil)
  go_simp
  refine hNo.out.mono ?_
  rintro e w8 ⟨v8, m8, M8, x8, er8, rfl, hP8, hN8, hb8⟩
  have hR' := Lib.hid (hr.out m8 M8 x8 er8 hP8)
  have hM8' := Lib.hid (hM1.out.below hb8)
  have hKe := Lib.hid (MkKept_any g most s v8 m8 M8 x8 er8 w8 hM8'.out hN8)
  have hBB := Lib.hid (But.of hb8 [g])
  have hB8' := Lib.hid (hB1.out.step hb8 hx0.out.bel.size)
  have hl8 := Lib.hid hb8.size
  clear hP8 hb8
  refine hK _ _ ?_
  clear hK K
  try simp only [Act.put, List.setIfInBounds_toArray, List.set_cons_zero, List.set_cons_succ]
  refine wpAny_take (i := 12) (v := _) rfl (by kernel_rfl) (by kernel_rfl) (by kernel_rfl) (fun _ _ _ h => h) (Or.inl ⟨by rfl, by intro w; go_simp; try with_reducible rfl⟩) ?_
  refine wpAny_take (i := 13) (v := _) rfl (by kernel_rfl) (by kernel_rfl) (by kernel_rfl) (fun _ _ _ h => h) (Or.inl ⟨by rfl, by intro w; go_simp; try with_reducible rfl⟩) ?_
  refine wpAny_take (i := 14) (v := _) rfl (by kernel_rfl) (by kernel_rfl) (by kernel_rfl) (fun _ _ _ h => h) (Or.inl ⟨by rfl, by intro w; go_simp; try with_reducible rfl⟩) ?_
  try simp only [Act.put, List.setIfInBounds_toArray]
  refine wpAny_ready (rs := [15]) (by kernel_rfl) (by simp) (AllReady.cons rfl (fun K hK => ?_) AllReady.nil)
  go_simp
  refine hKe.out.mono ?_
  rintro e w9 ⟨rfl, hM9, hB9⟩
  have hM9' := Lib.hid hM9
  have hB9' := Lib.hid (hB8'.out.next hB9 hB8'.out.size)
  clear hM9 hB9
  refine hK _ _ ?_
  clear hK K
  refine wpAny_take (i := 16) (oi := ⟨some 6, .assign (.tmp 22), _, _, _, _⟩) (v := _) rfl (by kernel_rfl) (by kernel_rfl) (by kernel_rfl) (fun _ _ _ h => h) (Or.inl ⟨by rfl, by intro w; go_simp; try with_reducible rfl⟩) ?_
  refine wpAny_done (by kernel_rfl) ?_ _
  try simp only [Act.put, List.setIfInBounds_toArray, List.set_cons_zero, List.set_cons_succ]
  go_wp2_with fail
  go_ret
  exact ⟨_, x8, rfl, hR'.out, hM9'.out, hB9'.out⟩

set_option maxHeartbeats 4000000 in
theorem Way_sum (h : WayH w g most s nd vv V) (ho : nd.op = 11) : Calls Try.prog 45 #[.pointer (some ⟨g, 0, none⟩), ndV nd, vv] w (MkrPost g most (WayR most s nd V) w) := by
  have hk : nd.len.toNat = 1 := h.alen ho (by decide) rfl
  have hv := h.v
  have hR0 := h.R (i := 0) (by omega)
  rw [hk] at hv
  have hlt := h.mkr.lt
  have hx0 := Lib.hid (ndRow w nd)
  have hM1 := Lib.hid ((h.mkr.below hx0.out.bel).drew)
  have hsep0 := h.sep
  obtain ⟨b, o, c, rfl, hb, hc⟩ := ints_open (hv.below hx0.out.bel.drew) (by omega)
  have v0 := hc 0 (by omega)
  rw [Nat.add_zero] at v0
  have hsep := Lib.hid (hsep0 b o _ c rfl)
  clear hsep0
  obtain ⟨⟨c0, -⟩, -, -, -, -, -, -, ⟨c7, -⟩, -⟩ := hx0.out.drew.cells
  simp only [Nat.zero_add, Nat.reduceAdd] at c7
  obtain ⟨TA, tc, q0, q1, -, -, -, hN⟩ := hM1.out.cells
  have hr := Lib.hid (fun m M x er hp => WayR.add (most := most) (s := s) (V := V) ho m M x er hp)
  have hws : Hid (w.heap.size < (w.alloc (.cells #[.int .i8 nd.op, .int .i8 nd.len, .int .i64 nd.a0, .int .i64 nd.a1, .int .i64 nd.a2, .int .i64 nd.sort, .int .i64 nd.fn, .int .i64 nd.num] 39)).drew.heap.size) := by unfold Hid; simp
  generalize hw1 : w.alloc (.cells #[.int .i8 nd.op, .int .i8 nd.len, .int .i64 nd.a0, .int .i64 nd.a1, .int .i64 nd.a2, .int .i64 nd.sort, .int .i64 nd.fn, .int .i64 nd.num] 39) = w1 at *
  have hNo := Lib.hid (OAdd_any (.slice TA s.n tc) s.n s.N (V 0) nd.num most w1.drew hN (by have := h.few; omega) hR0 h.nR.num h.most)
  have hB1 := Lib.hid (But.of hx0.out.bel.drew [g])
  have hg : Hid (w.heap.size ≠ g) := by unfold Hid; omega
  have hK8 := Lib.hid (fun (x : World) (hB : But [g] w1.drew.heap.size w1.drew x) (hMx : ∃ s', MkrAt x g most s') => (⟨by obtain ⟨s', hMx⟩ := hMx; obtain ⟨_, _, _, r1, _⟩ := hMx.cells; exact r1, (hB.cell (p := ⟨w.heap.size, 7, none⟩) hws.out (by have := hg.out; simpa using this)).trans c7, (hB.cell (p := ⟨b, o, none⟩) hb (by have := hsep.out; simpa using this)).trans v0⟩ : x.cell? ⟨g, 1, none⟩ = some (.int .i64 most) ∧ x.cell? ⟨w.heap.size, 7, none⟩ = some (.int .i64 nd.num) ∧ x.cell? ⟨b, o, none⟩ = some (.int .i64 (V 0))))
  have kS0 := hK8.out w1.drew (But.refl _ _ _) ⟨s, hM1.out⟩
  clear h ho hN
  unfold ndV
  go_enter Try.func45, Try.ntmps45
  go_upto_region 1 with fail
  clear hw1
  refine wp_region_head 14 _ (by kernel_rfl) (by kernel_rfl) (fun _ _ _ h => h) (Or.inl ⟨by rfl, by intro w; go_simp; try with_reducible rfl⟩) ?_
  simp only [Nat.reduceSub, List.take_succ_cons, List.take_zero]
  repeat still_step
  try refine wpStill_nil ?_
  change wpAny _ _ _ _ (5 + 1) _ _ _
  refine wpAny_ready (rs := [14]) (by kernel_rfl) (by simp) (AllReady.cons rfl (fun K hK => ?_) AllReady.nil)
  go_simp
  refine hNo.out.mono ?_
  rintro e w8 ⟨v8, m8, M8, x8, er8, rfl, hP8, hN8, hb8⟩
  have hR' := Lib.hid (hr.out m8 M8 x8 er8 hP8)
  have hM8' := Lib.hid (hM1.out.below hb8)
  have hKe := Lib.hid (MkKept_any g most s v8 m8 M8 x8 er8 w8 hM8'.out hN8)
  have hBB := Lib.hid (But.of hb8 [g])
  have hB8' := Lib.hid (hB1.out.step hb8 hx0.out.bel.size)
  have hl8 := Lib.hid hb8.size
  clear hP8 hb8
  refine hK _ _ ?_
  clear hK K
  try simp only [Act.put, List.setIfInBounds_toArray, List.set_cons_zero, List.set_cons_succ]
  refine wpAny_take (i := 15) (v := _) rfl (by kernel_rfl) (by kernel_rfl) (by kernel_rfl) (fun _ _ _ h => h) (Or.inl ⟨by rfl, by intro w; go_simp; try with_reducible rfl⟩) ?_
  refine wpAny_take (i := 16) (v := _) rfl (by kernel_rfl) (by kernel_rfl) (by kernel_rfl) (fun _ _ _ h => h) (Or.inl ⟨by rfl, by intro w; go_simp; try with_reducible rfl⟩) ?_
  refine wpAny_take (i := 17) (v := _) rfl (by kernel_rfl) (by kernel_rfl) (by kernel_rfl) (fun _ _ _ h => h) (Or.inl ⟨by rfl, by intro w; go_simp; try with_reducible rfl⟩) ?_
  try simp only [Act.put, List.setIfInBounds_toArray]
  refine wpAny_ready (rs := [18]) (by kernel_rfl) (by simp) (AllReady.cons rfl (fun K hK => ?_) AllReady.nil)
  go_simp
  refine hKe.out.mono ?_
  rintro e w9 ⟨rfl, hM9, hB9⟩
  have hM9' := Lib.hid hM9
  have hB9' := Lib.hid (hB8'.out.next hB9 hB8'.out.size)
  clear hM9 hB9
  refine hK _ _ ?_
  clear hK K
  refine wpAny_take (i := 19) (oi := ⟨some 6, .assign (.tmp 25), _, _, _, _⟩) (v := _) rfl (by kernel_rfl) (by kernel_rfl) (by kernel_rfl) (fun _ _ _ h => h) (Or.inl ⟨by rfl, by intro w; go_simp; try with_reducible rfl⟩) ?_
  refine wpAny_done (by kernel_rfl) ?_ _
  try simp only [Act.put, List.setIfInBounds_toArray, List.set_cons_zero, List.set_cons_succ]
  go_wp2_with fail
  go_ret
  exact ⟨_, x8, rfl, hR'.out, hM9'.out, hB9'.out⟩

end
end Go.Proofs.Ytecmoahadckomaa

namespace Go.Proofs.Ytecmoahadckomaa
open Go.RowKit Go.Maps
set_option maxRecDepth 100000

theorem setRow_topM (W : World) (old cs : Array Value) (t : TypeId) : (W.alloc (.cells old t)).setRow W.heap.size cs = W.alloc (.cells cs t) := by
  unfold World.setRow World.alloc
  congr 1
  apply Array.ext_getElem?
  intro i
  show ((W.heap.push (Obj.cells old t)).modify W.heap.size _)[i]? = (W.heap.push (Obj.cells cs t))[i]?
  rw [Array.getElem?_modify, Array.getElem?_push, Array.getElem?_push]
  by_cases e : W.heap.size = i
  · subst e; simp
  · rw [if_neg e, if_neg (fun h => e h.symm), if_neg (fun h => e h.symm)]
def padM (m : Nat) (A : Nat → Int) (i : Nat) : Int := if i < m then A i else 0
theorem copy_argsM (W : World) (U : Option Addr) (m cu : Nat) (A : Nat → Int) (op len so f k : Int) (hu : IntsAt W (.slice U m cu) m A) (hm : m ≤ 3) (ty : TypeId) :
    (Builtin.copy_ #[25, 25] ty #[.slice (some ⟨W.heap.size, 2, none⟩) 3 3, .slice U m cu]).run Try.prog (W.alloc (.cells #[.int .i8 op, .int .i8 len, .int .i64 0, .int .i64 0, .int .i64 0, .int .i64 so, .int .i64 f, .int .i64 k] 39)) =
      .ok (.int .i64 m) (W.alloc (.cells #[.int .i8 op, .int .i8 len, .int .i64 (padM m A 0), .int .i64 (padM m A 1), .int .i64 (padM m A 2), .int .i64 so, .int .i64 f, .int .i64 k] 39)) := by
  have hsz : (Try.prog.info? 3).map (·.size) = some 1 := by kernel_rfl
  by_cases h0 : m = 0
  · subst h0
    exact run_copy_none _ _ _ ty 3 _ _ _ _ _ _ Try.underlying25 hsz rfl
  · obtain ⟨U', c', e, _, _, hc⟩ := hu
    injection e with e1 _ e3
    subst e1; subst e3
    obtain ⟨b, o, rfl, hb, hc⟩ := hc (by omega)
    have h := run_copy_row (P := Try.prog) (W.alloc (.cells #[.int .i8 op, .int .i8 len, .int .i64 0, .int .i64 0, .int .i64 0, .int .i64 so, .int .i64 f, .int .i64 k] 39)) 25 25 ty 3 W.heap.size 2 3 3 ⟨b, o, none⟩ m cu
      #[.int .i8 op, .int .i8 len, .int .i64 0, .int .i64 0, .int .i64 0, .int .i64 so, .int .i64 f, .int .i64 k] 39 ((List.range m).map fun i => .int .i64 (A i)) Try.underlying25 hsz (by show (W.heap.push _)[W.heap.size]? = _; simp) (by rw [List.length_map, List.length_range]; exact (Nat.min_eq_left hm).symm) ?_ (by simp; omega) ?_
    · rw [h, setRow_topM]
      have : m = 1 ∨ m = 2 ∨ m = 3 := by omega
      rcases this with rfl | rfl | rfl <;> rfl
    · intro j v hj
      have hjm : j < m := by
        have := (List.getElem?_eq_some_iff.1 hj).1
        simpa using this
      simp [hjm] at hj
      subst hj
      have e1 : ((⟨b, o, none⟩ : Addr).add j) = ⟨b, o + j, none⟩ := by
        unfold Addr.add; split
        · next e => rw [e, Nat.add_zero]
        · rfl
      rw [e1]
      exact (((Below.refl W.heap.size W).alloc (Nat.le_refl _) _).cell (p := ⟨b, o + j, none⟩) hb).trans (hc j hjm)
    · intro v hv
      obtain ⟨i, _, rfl⟩ := List.mem_map.1 hv
      rfl
theorem appNd_R {nd : Nd} {V : Nat → Int} (hR : NdR nd) (hV : ∀ i, i < nd.len.toNat → R64 (V i)) : NdR (appNd nd V) := by
  have h0 : R64 0 := ⟨by decide, by decide⟩
  have ha : ∀ i : Nat, R64 (if (i : Int) < nd.len then V i else 0) := fun i => by
    by_cases h : (i : Int) < nd.len
    · rw [if_pos h]; exact hV i (by omega)
    · rw [if_neg h]; exact h0
  exact ⟨hR.op, hR.len, ha 0, ha 1, ha 2, hR.sort, hR.fn, hR.num⟩
set_option maxHeartbeats 4000000 in
theorem Way_app {w : World} {g : Nat} {most : Int} {s : CSt} {nd : Nd} {vv : Value} {V : Nat → Int} (h : WayH w g most s nd vv V) (ho : nd.op = 13) : Calls Try.prog 47 #[.pointer (some ⟨g, 0, none⟩), ndV nd, vv] w (MkrPost g most (WayR most s nd V) w) := by
  have hv := h.v
  have hln := h.len
  have hr := Lib.hid (fun s' x hp => WayR.app (most := most) (s := s) (V := V) ho s' x hp)
  have hNR := Lib.hid (appNd_R h.nR (fun i hi => h.R hi))
  obtain ⟨U, cu, rfl, -, -, -⟩ := h.v
  have hcp := fun ty => copy_argsM w U nd.len.toNat cu V nd.op nd.len nd.sort nd.fn nd.num hv (by omega) ty
  have hpd : ∀ i : Nat, padM nd.len.toNat V i = if (i : Int) < nd.len then V i else 0 := fun i => by
    unfold padM
    by_cases hi : (i : Int) < nd.len
    · rw [if_pos hi, if_pos (by omega)]
    · rw [if_neg hi, if_neg (by omega)]
  have p0 : padM nd.len.toNat V 0 = (appNd nd V).a0 := hpd 0
  have p1 : padM nd.len.toNat V 1 = (appNd nd V).a1 := hpd 1
  have p2 : padM nd.len.toNat V 2 = (appNd nd V).a2 := hpd 2
  rw [p0, p1, p2] at hcp
  have hbx : Below w.heap.size w (w.alloc (.cells #[.int .i8 nd.op, .int .i8 nd.len, .int .i64 (appNd nd V).a0, .int .i64 (appNd nd V).a1, .int .i64 (appNd nd V).a2, .int .i64 nd.sort, .int .i64 nd.fn, .int .i64 nd.num] 39)) := (Below.refl _ _).alloc (Nat.le_refl _) _
  have hNo := Lib.hid (MkNode_any g most s (appNd nd V) _ (h.mkr.below hbx) (by have := h.few; omega) hNR.out h.most)
  have hbx' := Lib.hid hbx
  unfold ndV at hNo ⊢
  have e0 : (appNd nd V).op = nd.op := rfl
  have e1 : (appNd nd V).len = nd.len := rfl
  have e5 : (appNd nd V).sort = nd.sort := rfl
  have e6 : (appNd nd V).fn = nd.fn := rfl
  have e7 : (appNd nd V).num = nd.num := rfl
  rw [e0, e1, e5, e6, e7] at hNo
  generalize (appNd nd V).a0 = A0 at *
  generalize (appNd nd V).a1 = A1 at *
  generalize (appNd nd V).a2 = A2 at *
  clear h ho hv hln hpd p0 p1 p2 hbx e0 e1 e5 e6 e7
  go_enter Try.func47, Try.ntmps47
  go_wp2_with fail
  refine hNo.out.mono ?_
  rintro e w8 ⟨s', x, rfl, hR, hM8, hB8⟩
  have hR' := Lib.hid (hr.out s' x hR)
  have hM8' := Lib.hid hM8
  have hB8' := Lib.hid ((But.of hbx'.out [g]).next hB8 hbx'.out.size)
  clear hR hM8 hB8
  go_wp2_with fail
  go_ret
  exact ⟨s', x, rfl, hR'.out, hM8'.out, hB8'.out⟩
end Go.Proofs.Ytecmoahadckomaa
