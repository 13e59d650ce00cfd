/- gantryref12.image: what it is handed, its boxes; no walk. -/
import Derived.Test.YtecmoahadckomaaZR12ER12F
import Derived.Test.YtecmoahadckomaaZMkTMkXMoA
namespace Go.Proofs.Ytecmoahadckomaa
open Go.RowKit Go.Maps
set_option maxRecDepth 1000000

/-- What image is handed. -/
structure ImH (w : World) (v vl : Value) (n : Nat) (N : Nat → Nd) (e : Nd) (V : Nat → Int) (most : Int) : Prop where
  v : NdsAt w v n N
  few : n ≤ 600000
  chk : CheckP n N
  most : R64 most
  nR : NdR e
  vl : IntsAt w vl e.len.toNat V
  ins : ∀ i, i < e.len.toNat → 0 ≤ V i ∧ V i < n
  len : 0 ≤ e.len ∧ e.len ≤ 3
  aty : e.op ≠ 13 → e.len = ar e.op
/-- The boxes: the table's, the node's, the result's. -/
structure ImB (w : World) (e : Nd) (v u : Value) (x : World) : Prop where
  r : x.cell? ⟨w.heap.size + 2, 0, none⟩ = some u
  fr : x.frozen? ⟨w.heap.size + 2, 0, none⟩ = false
  t : x.cell? ⟨w.heap.size, 0, none⟩ = some v
  nd : NdIn x (w.heap.size + 1) 0 e
  bel : Below w.heap.size w x
  lt : w.heap.size + 2 < x.heap.size
section
variable {w x y : World} {v vl u : Value} {n : Nat} {N : Nat → Nd} {e : Nd} {V : Nat → Int} {most : Int}
theorem ImH.R (h : ImH w v vl n N e V most) {i : Nat} (hi : i < e.len.toNat) : R64 (V i) := by
  have := h.ins i hi; have := h.few; unfold R64; omega
theorem ImH.alen (h : ImH w v vl n N e V most) {op : Int} {k : Nat} (ho : e.op = op) (h13 : op ≠ 13) (hk : ar op = k) : e.len.toNat = k := by
  have := h.aty (by rw [ho]; exact h13)
  rw [this, ho, hk]; simp
theorem ImB.step (h : ImB w e v u x) (hb : Below x.heap.size x y) : ImB w e v u y := by
  have hl := h.lt
  exact ⟨(hb.cell (p := ⟨w.heap.size + 2, 0, none⟩) h.lt).trans h.r, (hb.frozen (p := ⟨w.heap.size + 2, 0, none⟩) h.lt).trans h.fr, (hb.cell (p := ⟨w.heap.size, 0, none⟩) (by show w.heap.size < _; omega)).trans h.t,
    h.nd.keep fun j => hb.cell (p := ⟨w.heap.size + 1, j, none⟩) (by show w.heap.size + 1 < _; omega), h.bel.trans (hb.mono h.bel.size), Nat.lt_of_lt_of_le h.lt hb.size⟩
theorem ImB.drew (h : ImB w e v u x) : ImB w e v u x.drew := h.step (Below.refl _ _).drew
theorem ImB.skip (h : ImB w e v u x) (o : Obj) : ImB w e v u (x.alloc o) := h.step ((Below.refl _ _).alloc (Nat.le_refl _) o)
theorem ImB.res (h : ImB w e v u x) {u' : Value} : (x.setCell ⟨w.heap.size + 2, 0, none⟩ u').cell? ⟨w.heap.size + 2, 0, none⟩ = some u' := World.cell?_setCell_same' _ _ _ (by rw [h.r]; rfl)
theorem ImB.set (h : ImB w e v u x) (u' : Value) : ImB w e v u' (x.setCell ⟨w.heap.size + 2, 0, none⟩ u') :=
  ⟨h.res, by rw [World.frozen?_setCell]; exact h.fr, (World.cell?_setCell_far _ _ _ _ (by show w.heap.size + 2 ≠ w.heap.size; omega)).trans h.t, h.nd.keep fun j => World.cell?_setCell_far _ _ _ _ (by show w.heap.size + 2 ≠ w.heap.size + 1; omega), h.bel.setCell (p := ⟨w.heap.size + 2, 0, none⟩) (by show _ ≤ w.heap.size + 2; omega) _, by simpa using h.lt⟩
end
theorem ImB.start (w : World) (A : Option Addr) (n c : Nat) (e : Nd) : ImB w e (.slice A n c) (.slice none 0 0) (((w.alloc (.cells #[.slice A n c] 24)).alloc (.cells #[.int .i8 e.op, .int .i8 e.len, .int .i64 e.a0, .int .i64 e.a1, .int .i64 e.a2, .int .i64 e.sort, .int .i64 e.fn, .int .i64 e.num] 39)).alloc (.cells #[.slice none 0 0] 24)) := by
  have hr := World.rowIs_alloc (w.alloc (.cells #[.slice A n c] 24)) #[.int .i8 e.op, .int .i8 e.len, .int .i64 e.a0, .int .i64 e.a1, .int .i64 e.a2, .int .i64 e.sort, .int .i64 e.fn, .int .i64 e.num] 39 (ndF e) (fun i hi => by
    have hi : i < 8 := hi
    obtain rfl | rfl | rfl | rfl | rfl | rfl | rfl | rfl : i = 0 ∨ i = 1 ∨ i = 2 ∨ i = 3 ∨ i = 4 ∨ i = 5 ∨ i = 6 ∨ i = 7 := by omega
    all_goals rfl)
  have h1 : (w.alloc (.cells #[.slice A n c] 24)).cell? ⟨w.heap.size, 0, none⟩ = some (.slice A n c) := by simp
  have hn : NdIn ((w.alloc (.cells #[.slice A n c] 24)).alloc (.cells #[.int .i8 e.op, .int .i8 e.len, .int .i64 e.a0, .int .i64 e.a1, .int .i64 e.a2, .int .i64 e.sort, .int .i64 e.fn, .int .i64 e.num] 39)) (w.heap.size + 1) 0 e := by
    rw [World.size_alloc] at hr
    exact ⟨hr.cell (i := 0) (by show (0 : Nat) < 8; decide), hr.cell (i := 1) (by show (1 : Nat) < 8; decide), hr.cell (i := 2) (by show (2 : Nat) < 8; decide), hr.cell (i := 3) (by show (3 : Nat) < 8; decide), hr.cell (i := 4) (by show (4 : Nat) < 8; decide), hr.cell (i := 5) (by show (5 : Nat) < 8; decide), hr.cell (i := 6) (by show (6 : Nat) < 8; decide), hr.cell (i := 7) (by show (7 : Nat) < 8; decide)⟩
  generalize hw1 : w.alloc (.cells #[.slice A n c] 24) = w1 at *
  have s1 : w1.heap.size = w.heap.size + 1 := by rw [← hw1]; simp
  have b1 : Below w.heap.size w w1 := by rw [← hw1]; exact (Below.refl _ _).alloc (Nat.le_refl _) _
  generalize hw2 : w1.alloc (.cells #[.int .i8 e.op, .int .i8 e.len, .int .i64 e.a0, .int .i64 e.a1, .int .i64 e.a2, .int .i64 e.sort, .int .i64 e.fn, .int .i64 e.num] 39) = w2 at *
  have s2 : w2.heap.size = w.heap.size + 2 := by rw [← hw2]; simp; omega
  have b2 : Below w1.heap.size w1 w2 := by rw [← hw2]; exact (Below.refl _ _).alloc (Nat.le_refl _) _
  have b3 : Below w2.heap.size w2 (w2.alloc (.cells #[.slice none 0 0] 24)) := (Below.refl _ _).alloc (Nat.le_refl _) _
  refine ⟨by rw [← s2]; simp, by rw [← s2]; simp, ?_, ?_, ?_, by rw [← s2]; simp⟩
  · exact (b3.cell (p := ⟨w.heap.size, 0, none⟩) (by show w.heap.size < _; omega)).trans ((b2.cell (p := ⟨w.heap.size, 0, none⟩) (by show w.heap.size < _; omega)).trans h1)
  · exact hn.keep fun j => b3.cell (p := ⟨w.heap.size + 1, j, none⟩) (by show w.heap.size + 1 < _; omega)
  · exact (b1.trans (b2.mono b1.size)).trans (b3.mono (by omega))
section
variable {R R' : CSt → Int → Prop} {w x : World} {e : Nd} {A A0 : Option Addr} {c n0 c0 : Nat} {s' : CSt} {y z : Int} {v : Value}
theorem RfPost.fin3 (h : ImB w e v (.slice A0 n0 c0) x) (hR : R s' z) (hy : s'.e = 0 → y = z) (hN : NdsAt x (.slice A (tabN s') c) (tabN s') s'.N) :
    RfPost R w (.returned (.tuple #[.agg #[.slice A (tabN s') c], .int .i64 y, .int .i64 s'.e])) (x.setCell ⟨w.heap.size + 2, 0, none⟩ (.slice A (tabN s') c)) :=
  RfPost.ret hR hy (hN.setBox h.r (fun _ _ h => by cases h) _) (h.set _).bel
theorem RfPost.to (h : ∀ s' x, R s' x → R' s' x) : ∀ z w', RfPost R w z w' → RfPost R' w z w' := by
  rintro z w' ⟨v', s', x, y, hz, hR, hy, hN, hb⟩
  exact ⟨v', s', x, y, hz, h s' x hR, hy, hN, hb⟩
end
theorem OPutR.fails {n : Nat} {N : Nat → Nd} {b k most : Int} {m : Nat} {M : Nat → Nd} {x er : Int} (h : OPutR n N b k most m M x er) (he : er ≠ 0) : m = 0 := by
  cases h with
  | of => rfl
  | own => rfl
  | over => rfl
  | zero _ _ _ _ _ _ _ _ hp => exact hp.fails he
  | same => exact absurd rfl he
  | add _ _ _ _ _ _ _ _ _ hp => exact hp.fails he
theorem OAddR.fails {n : Nat} {N : Nat → Nd} {b k most : Int} {m : Nat} {M : Nat → Nd} {x er : Int} (h : OAddR n N b k most m M x er) (he : er ≠ 0) : m = 0 := by
  cases h with
  | of => rfl
  | over => rfl
  | put _ _ _ _ _ _ _ _ hp => exact hp.fails he
section
variable {n : Nat} {N : Nat → Nd} {most : Int} {w : World} {R : CSt → Int → Prop}
theorem rf_kept {m : Nat} {M : Nat → Nd} {x er : Int} {v' : Value} {w' : World} (hm : er ≠ 0 → m = 0) (hR : R (keptS ⟨n, N, 0⟩ m M er) x) (hN : NdsAt w' v' m M) (hb : Below w.heap.size w w') :
    RfPost R w (.returned (.tuple #[.agg #[v'], .int .i64 x, .int .i64 er])) w' := by
  obtain ⟨he, hN⟩ := kept_tab ⟨n, N, 0⟩ hm hN
  exact ⟨v', keptS ⟨n, N, 0⟩ m M er, x, x, by rw [he], hR, fun _ => rfl, hN, hb⟩
theorem rf_oput {b k : Int} (h : ∀ m M x er, OPutR n N b k most m M x er → R (keptS ⟨n, N, 0⟩ m M er) x) : ∀ z w', OPutPost n N b k most w z w' → RfPost R w z w' := by
  rintro z w' ⟨v', m, M, x, er, rfl, hp, hN, hb⟩
  exact rf_kept hp.fails (h m M x er hp) hN hb
theorem rf_add {b k : Int} (h : ∀ m M x er, OAddR n N b k most m M x er → R (keptS ⟨n, N, 0⟩ m M er) x) : ∀ z w', OAddPost n N b k most w z w' → RfPost R w z w' := by
  rintro z w' ⟨v', m, M, x, er, rfl, hp, hN, hb⟩
  exact rf_kept hp.fails (h m M x er hp) hN hb
theorem rf_put {e : Nd} (h : ∀ m M x er, PutR n N e most m M x er → R (keptS ⟨n, N, 0⟩ m M er) x) : ∀ z w', PutPost n N e most w z w' → RfPost R w z w' := by
  rintro z w' ⟨v', m, M, x, er, rfl, hp, hN, hb⟩
  exact rf_kept hp.fails (h m M x er hp) hN hb
end
end Go.Proofs.Ytecmoahadckomaa

namespace Go.Proofs.Ytecmoahadckomaa
open Go.RowKit Go.Maps
set_option maxRecDepth 1000000
section
variable {w : World} {v vl : Value} {n : Nat} {N : Nat → Nd} {e : Nd} {V : Nat → Int} {most : Int}
set_option maxHeartbeats 8000000 in
theorem R12img_tru (H : ImH w v vl n N e V most) (ho : e.op = 0) : Calls Try.prog 49 #[.agg #[v], ndV e, vl, .int .i64 most] w (RfPost (WayR most ⟨n, N, 0⟩ e V) w) := by
  have hR := Lib.hid (WayR.tru (most := most) (s := ⟨n, N, 0⟩) (V := V) ho)
  have hv' := Lib.hid H.v
  obtain ⟨TA, c, rfl, -, -, -⟩ := H.v
  obtain ⟨UA, cu, rfl, -, -, -⟩ := H.vl
  have hx1 := Lib.hid (ImB.start w TA n c e)
  have ho' := Lib.hid ho
  clear H ho
  unfold ndV
  go_enter Try.func49, Try.ntmps49
  go_upto_region 1 with fail
  generalize hW1 : ((w.alloc (.cells #[.slice TA n c] 24)).alloc (.cells #[.int .i8 e.op, .int .i8 e.len, .int .i64 e.a0, .int .i64 e.a1, .int .i64 e.a2, .int .i64 e.sort, .int .i64 e.fn, .int .i64 e.num] 39)).alloc (.cells #[.slice none 0 0] 24) = w1 at *
  clear hW1
  have c0 := hx1.out.nd.1
  rw [ho'.out] at c0
  have t1 := hx1.out.t
  have r1 := hx1.out.r
  have f1 := hx1.out.fr
  go_wp2_with fail
  refine bodyPost_ret (results_tab2 rfl _ _ (w.heap.size + 2) (.slice TA n c) rfl hx1.out.res) rfl ?_
  exact RfPost.fin3 (s' := ⟨n, N, 0⟩) hx1.out hR.out (fun _ => rfl) (hv'.out.below hx1.out.bel)
set_option maxHeartbeats 8000000 in
theorem R12img_num (H : ImH w v vl n N e V most) (ho : e.op = 10) : Calls Try.prog 49 #[.agg #[v], ndV e, vl, .int .i64 most] w (RfPost (WayR most ⟨n, N, 0⟩ e V) w) := by
  have hC := Lib.hid (fun (x : World) (hb : Below w.heap.size w x) => (R11Put_any v n N 1 e.num most x (H.v.below hb) (by have := H.few; omega) ⟨by decide, by decide⟩ H.nR.num H.most).mono (rf_oput (fun m M x er hp => WayR.num (s := ⟨n, N, 0⟩) (V := V) ho m M x er hp)))
  obtain ⟨TA, c, rfl, -, -, -⟩ := H.v
  obtain ⟨UA, cu, rfl, -, -, -⟩ := H.vl
  have hx1 := Lib.hid (ImB.start w TA n c e)
  have ho' := Lib.hid ho
  clear H ho
  unfold ndV
  go_enter Try.func49, Try.ntmps49
  go_upto_region 1 with fail
  generalize hW1 : ((w.alloc (.cells #[.slice TA n c] 24)).alloc (.cells #[.int .i8 e.op, .int .i8 e.len, .int .i64 e.a0, .int .i64 e.a1, .int .i64 e.a2, .int .i64 e.sort, .int .i64 e.fn, .int .i64 e.num] 39)).alloc (.cells #[.slice none 0 0] 24) = w1 at *
  clear hW1
  have c0 := hx1.out.nd.1
  rw [ho'.out] at c0
  have c7 : w1.cell? ⟨w.heap.size + 1, 7, none⟩ = some (.int .i64 e.num) := hx1.out.nd.2.2.2.2.2.2.2
  have t1 := hx1.out.t
  have hCd := Lib.hid (hC.out w1 hx1.out.bel)
  clear hC
  go_wp2_with fail
  with_reducible refine hCd.out.mono ?_
  rintro z w5 ⟨v5, s5, x5, y5, rfl, hR5, hy5, hN5, hb5⟩
  have hx5 := Lib.hid (hx1.out.step hb5)
  have r5 := hx5.out.r
  have f5 := hx5.out.fr
  have hN5' := Lib.hid hN5
  have hR5' := Lib.hid hR5
  have hy5' := Lib.hid hy5
  obtain ⟨A5, c5, rfl, -, -, -⟩ := hN5
  clear hR5 hy5 hb5 hCd c0 c7 t1 hx1
  go_wp2_with fail
  refine bodyPost_ret (results_tab2 rfl _ _ (w.heap.size + 2) (.slice A5 (tabN s5) c5) rfl hx5.out.res) rfl ?_
  exact RfPost.fin3 hx5.out hR5'.out hy5'.out hN5'.out
set_option maxHeartbeats 8000000 in
theorem R12img_kind (H : ImH w v vl n N e V most) (ho : e.op = 2 ∨ e.op = 3) : Calls Try.prog 49 #[.agg #[v], ndV e, vl, .int .i64 most] w (RfPost (WayR most ⟨n, N, 0⟩ e V) w) := by
  have hk : e.len.toNat = 2 := by
    rcases ho with h | h
    · exact H.alen h (by decide) rfl
    · exact H.alen h (by decide) rfl
  have hC := Lib.hid (fun (x : World) (hb : Below w.heap.size w x) => (R12put_any v n N e.op vl e.len.toNat V most x (H.v.below hb) (by have := H.few; omega) H.nR.op (H.vl.below hb) (by omega) H.most H.ins).mono (RfPost.to (fun s' x hp => WayR.kind ho s' x hp)))
  obtain ⟨TA, c, rfl, -, -, -⟩ := H.v
  obtain ⟨UA, cu, rfl, -, -, -⟩ := H.vl
  have hx1 := Lib.hid (ImB.start w TA n c e)
  clear H hk
  unfold ndV
  go_enter Try.func49, Try.ntmps49
  go_upto_region 1 with fail
  generalize hW1 : ((w.alloc (.cells #[.slice TA n c] 24)).alloc (.cells #[.int .i8 e.op, .int .i8 e.len, .int .i64 e.a0, .int .i64 e.a1, .int .i64 e.a2, .int .i64 e.sort, .int .i64 e.fn, .int .i64 e.num] 39)).alloc (.cells #[.slice none 0 0] 24) = w1 at *
  clear hW1
  have c0 := hx1.out.nd.1
  have t1 := hx1.out.t
  have hCd := Lib.hid (hC.out w1 hx1.out.bel)
  clear hC
  rcases ho with ho | ho
  all_goals
    rw [ho] at c0 hCd
    clear ho
    go_wp2_with fail
    with_reducible refine hCd.out.mono ?_
    rintro z w5 ⟨v5, s5, x5, y5, rfl, hR5, hy5, hN5, hb5⟩
    have hx5 := Lib.hid (hx1.out.step hb5)
    have r5 := hx5.out.r
    have f5 := hx5.out.fr
    have hN5' := Lib.hid hN5
    have hR5' := Lib.hid hR5
    have hy5' := Lib.hid hy5
    obtain ⟨A5, c5, rfl, -, -, -⟩ := hN5
    clear hR5 hy5 hb5 hCd c0 t1 hx1
    go_wp2_with fail
    refine bodyPost_ret (results_tab2 rfl _ _ (w.heap.size + 2) (.slice A5 (tabN s5) c5) rfl hx5.out.res) rfl ?_
    exact RfPost.fin3 hx5.out hR5'.out hy5'.out hN5'.out
end
end Go.Proofs.Ytecmoahadckomaa
