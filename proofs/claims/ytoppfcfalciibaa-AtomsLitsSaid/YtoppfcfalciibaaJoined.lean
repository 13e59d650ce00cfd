/- The law AtomsJoined: the walk. -/
import Derived.Test.YtoppfcfalciibaaJoinL
namespace Go.Proofs.Ytoppfcfalciibaa
open Go.RowKit Go.Maps
set_option maxRecDepth 100000

/-- A world further on than w, with w's boxes, and than z. -/
def J3 (w : World) (K : List (Nat × Nat × Value)) (z x : World) : Prop := Bx w K x ∧ Below z.heap.size z x
theorem J3.step {w z x y : World} {K : List (Nat × Nat × Value)} (h : J3 w K z x) (hb : Below x.heap.size x y) : J3 w K z y := ⟨h.1.step hb, h.2.trans (hb.mono h.2.size)⟩
theorem J3.one {w x : World} {K : List (Nat × Nat × Value)} (h : Bx w K x) : J3 w K x x := ⟨h, Below.refl _ _⟩
theorem J3.drew {w z x : World} {K : List (Nat × Nat × Value)} (h : J3 w K z x) : J3 w K z x.drew := h.step (Below.refl _ _).drew
theorem J3.alloc {w z x : World} {K : List (Nat × Nat × Value)} (h : J3 w K z x) (o : Obj) : J3 w K z (x.alloc o) := h.step ((Below.refl _ _).alloc (Nat.le_refl _) _)
theorem J3.cell {w z x : World} {k : Nat × Nat × Value} (h : J3 w [k] z x) : x.cell? ⟨k.1, k.2.1, none⟩ = some k.2.2 := h.1.cells.1.1

theorem J3.stepB {w z x y : World} {o : Nat} {v : Value} (h : J3 w [(w.heap.size, o, v)] z x) (hb : Below z.heap.size x y) (hz : w.heap.size < z.heap.size) : J3 w [(w.heap.size, o, v)] z y := by
  obtain ⟨⟨⟨⟨h0, h1⟩, -⟩, h2⟩, h3⟩ := h
  exact ⟨⟨⟨⟨(hb.cell (p := ⟨w.heap.size, o, none⟩) hz).trans h0, by have := hb.size; omega⟩, trivial⟩, h2.trans (hb.mono (Nat.le_of_lt hz))⟩, h3.trans hb⟩

set_option maxHeartbeats 8000000 in
theorem Joined_main (v a b : Value) (n m1 m2 : Nat) (N : Nat → Nd) (f g : Nat → Int) (w : World) (hv : NdsAt w v n N) (ha : IntsAt w a m1 f) (hb : IntsAt w b m2 g) (hn : n ≤ 300) (h300 : m1 + m2 ≤ 300) (h1 : mayT n N m1 f = true) (h2 : mayT n N m2 g = true) :
    Calls Try.prog 10 #[.agg #[v], a, b] w fun x w' => x = .returned (.bool true) ∧ Below w.heap.size w w' := by
  have hv' := Lib.hid hv
  have ha' := Lib.hid ha
  have hb' := Lib.hid hb
  have hM1 := fun x (h : Below w.heap.size w x) => RMay13_any v a n m1 N f x (hv.below h) (by omega) (ha.below h)
  have hM2 := fun x (h : Below w.heap.size w x) => RMay13_any v b n m2 N g x (hv.below h) (by omega) (hb.below h)
  have hE1 := fun x (h : Below w.heap.size w x) => Euf_any v a n m1 N f x (hv.below h) (by omega) (ha.below h) (by omega)
  have hE2 := fun x (h : Below w.heap.size w x) => Euf_any v b n m2 N g x (hv.below h) (by omega) (hb.below h) (by omega)
  have hI1 := fun x (h : Below w.heap.size w x) => Idl_any v a n m1 N f x (hv.below h) (by omega) (ha.below h) (by omega)
  have hI2 := fun x (h : Below w.heap.size w x) => Idl_any v b n m2 N g x (hv.below h) (by omega) (hb.below h) (by omega)
  rw [h1] at hM1
  rw [h2] at hM2
  have hmj := Lib.hid (may_join h1 h2)
  have hej := Lib.hid (euf_join h1 h2)
  have hij := Lib.hid (idl_join h1 h2)
  obtain ⟨A, c, rfl, _, _, _⟩ := hv
  obtain ⟨U, cu, rfl, _, hRu, _⟩ := ha
  obtain ⟨V, cv, rfl, _, hRv, _⟩ := hb
  have hR1 := Lib.hid (L_R hRu)
  have hR2 := Lib.hid (L_R hRv)
  have he1 := Lib.hid (eufL_sub n m1 N f)
  have he2 := Lib.hid (eufL_sub n m2 N g)
  have hi1 := Lib.hid (idlL_sub n m1 N f)
  have hi2 := Lib.hid (idlL_sub n m2 N g)
  have hlen : Hid ((L f m1 ++ L g m2).length ≤ 300) := by unfold Hid; rw [List.length_append, L_len, L_len]; exact h300
  have hRj : Hid (∀ x ∈ L f m1 ++ L g m2, R64 x) := fun x hx => (List.mem_append.1 hx).elim (hR1.out x) (hR2.out x)
  have hx0 := (Bx.nil w).one (.slice A n c) 24
  have hd : Hid (decide (300 < n) = false) := by unfold Hid; simp; omega
  clear hRu hRv h1 h2
  have d0 : decide ((300 : Int) < (m1 : Int) + (m2 : Int)) = false := by simp; omega
  go_enter Try.func10, Try.ntmps10
  go_wp2_with fail
  refine (Great5_any _ n N _ (hv'.out.below hx0.bel)).mono ?_
  rintro x w2 ⟨rfl, hb2⟩
  rw [hd.out]
  have hx2 := hx0.step hb2
  obtain ⟨⟨q0, z0⟩, -⟩ := hx2.cells
  go_wp2_with fail
  refine (hM1 _ hx2.bel).mono ?_
  rintro x w3 ⟨rfl, hb3⟩
  have hx3 := hx2.step hb3
  clear q0 z0
  obtain ⟨⟨q0, z0⟩, -⟩ := hx3.cells
  go_wp2_with fail
  refine (hM2 _ hx3.bel).mono ?_
  rintro x w4 ⟨rfl, hb4⟩
  have hx4 := hx3.step hb4
  clear q0 z0 hM1 hM2 hx0 hx2 hx3 hb2 hb3 hb4
  obtain ⟨⟨q0, z0⟩, -⟩ := hx4.cells
  have hx4s := hx4.skip (.cells #[] 3)
  have hu4 := Lib.hid (ha'.out.below hx4s.bel).toL
  have hq4 := Lib.hid (OwnL.lit0 w4 w4.heap.size (Nat.le_refl _))
  have hz4 := hx4.bel.size
  go_wp2_with (at_builtin; refine wpList_appX rfl _ _ rfl w4.heap.size _ [] rfl hq4.out _ _ rfl hu4.out (by rw [L_len, List.length_nil]; omega) (by simp) ?_)
  intro v5 w5 ho5 hb5
  have hc5 := J3.stepB ((J3.one hx4).alloc (.cells #[] 3)) hb5 z0
  have ho5' := Lib.hid ho5
  have hu5 := Lib.hid (hb'.out.below hc5.1.bel).toL
  clear ho5 hu4 hq4 q0
  go_wp2_with (at_builtin; refine wpList_appX rfl _ _ rfl w4.heap.size _ _ rfl ho5'.out _ _ rfl hu5.out (by show (L f m1).length + (L g m2).length ≤ 1000000; rw [L_len, L_len]; omega) hc5.2.size ?_)
  intro v6 w6 ho6 hb6
  have hc6 := J3.stepB hc5 hb6 z0
  have ho6' := Lib.hid ho6
  have hx6 := hc6.1
  clear ho6 hu5 ho5' hc5 hx4s
  have z6 : w.heap.size < w6.heap.size := hx6.cells.1.2
  have ja4 := Lib.hid (J3.one hx6).drew
  have jb4 := Lib.hid ((J3.one hx6).alloc (.cells #[] 3)).drew
  have lb4 : Hid (OwnL (w6.alloc (.cells #[] 3)).drew w6.heap.size (.slice (some ⟨w6.heap.size, 0, none⟩) 0 0) []) := OwnL.lit0 w6 _ (Nat.le_refl _)
  have ba4 := ja4.out.1.bel
  have bb4 := jb4.out.1.bel
  have qq4 := hx6.cells.1.1
  go_upto_region 4 with fail
  go_cut [8] (fun u w' => OwnL w' w6.heap.size u (eufL n N m1 f ++ eufL n N m2 g) ∧ J3 w [(w.heap.size, 0, .slice A n c)] w6 w')
  case first =>
    go_region_held3 (fun x => x.cell? ⟨w.heap.size, 0, none⟩ = some (.slice A n c))
      (first | exact ja4.out.cell | exact jb4.out.cell | exact j7.cell | exact (j7.alloc _).cell | exact j8.cell | exact j9.cell | exact j10.cell | fail)
      (first
        | (go_at_call 35; first
            | ((with_reducible refine Calls.mono (hE1 _ bb4) ?_); rintro e y7 ⟨v7, rfl, ho7, hb7⟩; have j7 := jb4.out.step hb7; have l7 := lb4.out.below hb7 (Nat.le_refl _); have k7 := ho7.gf (Nat.le_trans he1.out.2 (Nat.le_trans (Nat.le_add_right m1 m2) (Nat.le_trans h300 (Nat.le_of_ble_eq_true rfl)))) (fun x hx => hR1.out x (he1.out.1 x hx)))
            | ((with_reducible refine Calls.mono (hE1 _ ba4) ?_); rintro e y7 ⟨v7, rfl, ho7, hb7⟩; have j7 := ja4.out.step hb7; have k7 := ho7.gf (Nat.le_trans he1.out.2 (Nat.le_trans (Nat.le_add_right m1 m2) (Nat.le_trans h300 (Nat.le_of_ble_eq_true rfl)))) (fun x hx => hR1.out x (he1.out.1 x hx)))
            | ((with_reducible refine Calls.mono (hE2 _ b8) ?_); rintro e y9 ⟨v9, rfl, ho9, hb9⟩; have j9 := j8.step hb9; have l9 := ho8.below hb9 (Nat.le_refl _); have k9 := ho9.gf (Nat.le_trans he2.out.2 (Nat.le_trans (Nat.le_add_left m2 m1) (Nat.le_trans h300 (Nat.le_of_ble_eq_true rfl)))) (fun x hx => hR2.out x (he2.out.1 x hx))))
        | (refine step_appX rfl (.tmp 38) (.tmp 41) rfl w6.heap.size _ [] rfl l7 _ _ rfl k7 (by rw [List.length_nil]; have := he1.out.2; omega) j7.2.size ?_; intro v8 y8 ho8 hb8; have j8 := J3.stepB j7 hb8 z6; have b8 := j8.1.bel)
        | (refine step_appX rfl (.tmp 38) (.tmp 41) rfl w6.heap.size _ [] rfl (OwnL.lit0 y7 w6.heap.size j7.2.size) _ _ rfl (k7.below ((Below.refl _ _).alloc (Nat.le_refl _) _)) (by rw [List.length_nil]; have := he1.out.2; omega) (j7.alloc _).2.size ?_; intro v8 y8 ho8 hb8; have j8 := J3.stepB (j7.alloc _) hb8 z6; have b8 := j8.1.bel)
        | (refine step_appX rfl (.tmp 42) (.tmp 45) rfl w6.heap.size _ _ rfl l9 _ _ rfl k9 (by rw [List.length_append, List.length_nil]; have := he1.out.2; have := he2.out.2; omega) j9.2.size ?_; intro v10 y10 ho10 hb10; have j10 := J3.stepB j9 hb10 z6)
        | fail)
    all_goals (go_wp2_with fail; go_meet; exact ⟨ho10, j10⟩)
  case rest =>
  obtain ⟨hc7, hj7⟩ := hcut
  obtain ⟨w7, hw7⟩ : ∃ x, x = wc := ⟨_, rfl⟩
  subst hw7
  have hx7 := hj7.1
  have ho7 := Lib.hid (ho6'.out.below hj7.2 (Nat.le_refl _))
  have hc7' := Lib.hid hc7
  have hlE : Hid ((eufL n N m1 f ++ eufL n N m2 g).length ≤ 1000000) := by unfold Hid; rw [List.length_append]; have := he1.out.2; have := he2.out.2; omega
  have hrE : Hid (∀ x ∈ eufL n N m1 f ++ eufL n N m2 g, R64 x) := fun x hx => (List.mem_append.1 hx).elim (fun h => hR1.out x (he1.out.1 x h)) (fun h => hR2.out x (he2.out.1 x h))
  have hlI : Hid ((idlL n N m1 f ++ idlL n N m2 g).length ≤ 1000000) := by unfold Hid; rw [List.length_append]; have := hi1.out.2; have := hi2.out.2; omega
  have hrI : Hid (∀ x ∈ idlL n N m1 f ++ idlL n N m2 g, R64 x) := fun x hx => (List.mem_append.1 hx).elim (fun h => hR1.out x (hi1.out.1 x h)) (fun h => hR2.out x (hi2.out.1 x h))
  have z7 : w.heap.size < w7.heap.size := hx7.cells.1.2
  clear hc7 ho6' qq4 ba4 bb4 ja4 jb4 lb4 hE1 hE2
  have ja5 := Lib.hid (J3.one hx7).drew
  have jb5 := Lib.hid ((J3.one hx7).alloc (.cells #[] 3)).drew
  have lb5 : Hid (OwnL (w7.alloc (.cells #[] 3)).drew w7.heap.size (.slice (some ⟨w7.heap.size, 0, none⟩) 0 0) []) := OwnL.lit0 w7 _ (Nat.le_refl _)
  have ba5 := ja5.out.1.bel
  have bb5 := jb5.out.1.bel
  have qq5 := hx7.cells.1.1
  go_upto_region 5 with fail
  go_cut [9] (fun u w' => OwnL w' w7.heap.size u (idlL n N m1 f ++ idlL n N m2 g) ∧ J3 w [(w.heap.size, 0, .slice A n c)] w7 w')
  case first =>
    go_region_held3 (fun x => x.cell? ⟨w.heap.size, 0, none⟩ = some (.slice A n c))
      (first | exact ja5.out.cell | exact jb5.out.cell | exact j7.cell | exact (j7.alloc _).cell | exact j8.cell | exact j9.cell | exact j10.cell | fail)
      (first
        | (go_at_call 36; first
            | ((with_reducible refine Calls.mono (hI1 _ bb5) ?_); rintro e y7 ⟨v7, rfl, ho7, hb7⟩; have j7 := jb5.out.step hb7; have l7 := lb5.out.below hb7 (Nat.le_refl _); have k7 := ho7.gf (Nat.le_trans hi1.out.2 (Nat.le_trans (Nat.le_add_right m1 m2) (Nat.le_trans h300 (Nat.le_of_ble_eq_true rfl)))) (fun x hx => hR1.out x (hi1.out.1 x hx)))
            | ((with_reducible refine Calls.mono (hI1 _ ba5) ?_); rintro e y7 ⟨v7, rfl, ho7, hb7⟩; have j7 := ja5.out.step hb7; have k7 := ho7.gf (Nat.le_trans hi1.out.2 (Nat.le_trans (Nat.le_add_right m1 m2) (Nat.le_trans h300 (Nat.le_of_ble_eq_true rfl)))) (fun x hx => hR1.out x (hi1.out.1 x hx)))
            | ((with_reducible refine Calls.mono (hI2 _ b8) ?_); rintro e y9 ⟨v9, rfl, ho9, hb9⟩; have j9 := j8.step hb9; have l9 := ho8.below hb9 (Nat.le_refl _); have k9 := ho9.gf (Nat.le_trans hi2.out.2 (Nat.le_trans (Nat.le_add_left m2 m1) (Nat.le_trans h300 (Nat.le_of_ble_eq_true rfl)))) (fun x hx => hR2.out x (hi2.out.1 x hx))))
        | (refine step_appX rfl (.tmp 47) (.tmp 50) rfl w7.heap.size _ [] rfl l7 _ _ rfl k7 (by rw [List.length_nil]; have := hi1.out.2; omega) j7.2.size ?_; intro v8 y8 ho8 hb8; have j8 := J3.stepB j7 hb8 z7; have b8 := j8.1.bel)
        | (refine step_appX rfl (.tmp 47) (.tmp 50) rfl w7.heap.size _ [] rfl (OwnL.lit0 y7 w7.heap.size j7.2.size) _ _ rfl (k7.below ((Below.refl _ _).alloc (Nat.le_refl _) _)) (by rw [List.length_nil]; have := hi1.out.2; omega) (j7.alloc _).2.size ?_; intro v8 y8 ho8 hb8; have j8 := J3.stepB (j7.alloc _) hb8 z7; have b8 := j8.1.bel)
        | (refine step_appX rfl (.tmp 51) (.tmp 54) rfl w7.heap.size _ _ rfl l9 _ _ rfl k9 (by rw [List.length_append, List.length_nil]; have := hi1.out.2; have := hi2.out.2; omega) j9.2.size ?_; intro v10 y10 ho10 hb10; have j10 := J3.stepB j9 hb10 z7)
        | fail)
    all_goals (go_wp2_with fail; go_meet; exact ⟨ho10, j10⟩)
  case rest =>
  obtain ⟨hc8, hj8⟩ := hcut
  obtain ⟨w8, hw8⟩ : ∃ x, x = wc := ⟨_, rfl⟩
  subst hw8
  have hx8 := hj8.1
  have ho8 := Lib.hid (ho7.out.below hj8.2 (Nat.le_refl _))
  have he8 := Lib.hid (hc7'.out.below hj8.2 (Nat.le_refl _))
  have hc8' := Lib.hid hc8
  clear hc8 ho7 hc7' qq5 ba5 bb5 ja5 jb5 lb5 hI1 hI2 hj7
  obtain ⟨⟨q0, z8⟩, -⟩ := hx8.cells
  have hl3 : Hid ((L f m1 ++ L g m2).length ≤ 1000000) := Nat.le_trans hlen.out (by omega)
  go_wp2_with fail
  refine (AMay_any _ _ n _ N _ w8 (hv'.out.below hx8.bel) (by omega) (ho8.out.gf hl3.out hRj.out)).mono ?_
  rintro x w9 ⟨rfl, hb9⟩
  rw [hmj.out]
  have hx9 := hx8.step hb9
  have ho9 := Lib.hid (ho8.out.below hb9 (Nat.le_refl _))
  have he9 := Lib.hid (he8.out.below hb9 (Nat.le_refl _))
  have hc9 := Lib.hid (hc8'.out.below hb9 (Nat.le_refl _))
  clear q0 ho8 he8 hc8'
  obtain ⟨⟨q0, z9⟩, -⟩ := hx9.cells
  go_wp2_with fail
  refine (Euf_any _ _ n _ N _ w9 (hv'.out.below hx9.bel) (by omega) (ho9.out.gf hl3.out hRj.out) hl3.out).mono ?_
  rintro x w10 ⟨v10, rfl, hE10, hb10⟩
  rw [hej.out] at hE10
  have hE10' := Lib.hid hE10
  clear hE10
  have hx10 := hx9.step hb10
  have ho10 := Lib.hid (ho9.out.below hb10 (Nat.le_refl _))
  have he10 := Lib.hid (he9.out.below hb10 (Nat.le_refl _))
  have hc10 := Lib.hid (hc9.out.below hb10 (Nat.le_refl _))
  clear q0 ho9 he9 hc9
  obtain ⟨⟨q0, z10⟩, -⟩ := hx10.cells
  go_wp2_with fail
  refine (IntsQ_any _ _ _ _ _ _ w10 (hE10'.out.gf hlE.out hrE.out) (he10.out.gf hlE.out hrE.out) rfl (fun _ _ => rfl)).mono ?_
  rintro x w11 ⟨rfl, d11, rfl⟩
  have hx11 := hx10.drewN d11
  have ho11 := Lib.hid (ho10.out.below (below_drewN (Below.refl w10.heap.size w10) d11) (Nat.le_refl _))
  have hc11 := Lib.hid (hc10.out.below (below_drewN (Below.refl w10.heap.size w10) d11) (Nat.le_refl _))
  go_wp2_with fail
  refine (Idl_any _ _ n _ N _ _ (hv'.out.below hx11.bel) (by omega) (ho11.out.gf hl3.out hRj.out) hl3.out).mono ?_
  rintro x w12 ⟨v12, rfl, hI12, hb12⟩
  rw [hij.out] at hI12
  have hI12' := Lib.hid hI12
  clear hI12
  have hx12 := hx11.step hb12
  have hc12 := Lib.hid (hc11.out.below hb12 (Nat.le_refl _))
  clear q0 ho11 hc11 ho10 he10 hc10
  go_wp2_with fail
  refine (IntsQ_any _ _ _ _ _ _ w12 (hI12'.out.gf hlI.out hrI.out) (hc12.out.gf hlI.out hrI.out) rfl (fun _ _ => rfl)).mono ?_
  rintro x w13 ⟨rfl, d13, rfl⟩
  have hx13 := hx12.drewN d13
  go_wp2_with fail
  refine (wakes13_any _).mono ?_
  rintro x w14 ⟨rfl, hb14⟩
  go_wp2
  go_ret
  exact ⟨rfl, (hx13.step hb14).bel⟩

set_option maxHeartbeats 4000000 in
theorem Joined_any (v a b : Value) (n m1 m2 : Nat) (N : Nat → Nd) (f g : Nat → Int) (w : World) (hv : NdsAt w v n N) (ha : IntsAt w a m1 f) (hb : IntsAt w b m2 g) (hm1 : m1 ≤ 140737488355328) (hm2 : m2 ≤ 140737488355328) :
    Calls Try.prog 10 #[.agg #[v], a, b] w fun x w' => x = .returned (.bool true) ∧ Below w.heap.size w w' := by
  have hv' := Lib.hid hv
  have ha' := Lib.hid ha
  have hb' := Lib.hid hb
  have hM1 := fun (hn : n ≤ 300) x (h : Below w.heap.size w x) => RMay13_any v a n m1 N f x (hv.below h) (by omega) (ha.below h)
  have hM2 := fun (hn : n ≤ 300) x (h : Below w.heap.size w x) => RMay13_any v b n m2 N g x (hv.below h) (by omega) (hb.below h)
  by_cases hbig : 300 < n
  · obtain ⟨A, c, rfl, _, _, _⟩ := hv
    obtain ⟨U, cu, rfl, _, _, _⟩ := ha
    obtain ⟨V, cv, rfl, _, _, _⟩ := hb
    have hx0 := (Bx.nil w).one (.slice A n c) 24
    have hd : Hid (decide (300 < n) = true) := by unfold Hid; simpa using hbig
    clear hbig hM1 hM2
    go_enter Try.func10, Try.ntmps10
    go_wp2_with fail
    refine (Great5_any _ n N _ (hv'.out.below hx0.bel)).mono ?_
    rintro x w2 ⟨rfl, hb2⟩
    rw [hd.out]
    go_wp2_with fail
    refine (wakes13_any _).mono ?_
    rintro x w3 ⟨rfl, hb3⟩
    go_wp2
    go_ret
    exact ⟨rfl, ((hx0.step hb2).step hb3).bel⟩
  have hM1' := hM1 (by omega)
  have hM2' := hM2 (by omega)
  clear hM1 hM2
  by_cases h300 : m1 + m2 ≤ 300
  · cases h1 : mayT n N m1 f with
    | false =>
      rw [h1] at hM1'
      obtain ⟨A, c, rfl, _, _, _⟩ := hv
      obtain ⟨U, cu, rfl, _, _, _⟩ := ha
      obtain ⟨V, cv, rfl, _, _, _⟩ := hb
      have hx0 := (Bx.nil w).one (.slice A n c) 24
      have hd : Hid (decide (300 < n) = false) := by unfold Hid; simpa using hbig
      have d0 : decide ((300 : Int) < (m1 : Int) + (m2 : Int)) = false := by simp; omega
      clear hbig hM2' h1
      go_enter Try.func10, Try.ntmps10
      go_wp2_with fail
      refine (Great5_any _ n N _ (hv'.out.below hx0.bel)).mono ?_
      rintro x w2 ⟨rfl, hb2⟩
      rw [hd.out]
      have hx2 := hx0.step hb2
      obtain ⟨⟨q0, z0⟩, -⟩ := hx2.cells
      go_wp2_with fail
      refine (hM1' _ hx2.bel).mono ?_
      rintro x w3 ⟨rfl, hb3⟩
      have hx3 := hx2.step hb3
      go_wp2_with fail
      refine (wakes13_any _).mono ?_
      rintro x w4 ⟨rfl, hb4⟩
      go_wp2
      go_ret
      exact ⟨rfl, (hx3.step hb4).bel⟩
    | true =>
      cases h2 : mayT n N m2 g with
      | true => exact Joined_main v a b n m1 m2 N f g w hv ha hb (by omega) h300 h1 h2
      | false =>
        rw [h1] at hM1'
        rw [h2] at hM2'
        obtain ⟨A, c, rfl, _, _, _⟩ := hv
        obtain ⟨U, cu, rfl, _, _, _⟩ := ha
        obtain ⟨V, cv, rfl, _, _, _⟩ := hb
        have hx0 := (Bx.nil w).one (.slice A n c) 24
        have hd : Hid (decide (300 < n) = false) := by unfold Hid; simpa using hbig
        have d0 : decide ((300 : Int) < (m1 : Int) + (m2 : Int)) = false := by simp; omega
        clear hbig h1 h2
        go_enter Try.func10, Try.ntmps10
        go_wp2_with fail
        refine (Great5_any _ n N _ (hv'.out.below hx0.bel)).mono ?_
        rintro x w2 ⟨rfl, hb2⟩
        rw [hd.out]
        have hx2 := hx0.step hb2
        obtain ⟨⟨q0, z0⟩, -⟩ := hx2.cells
        go_wp2_with fail
        refine (hM1' _ hx2.bel).mono ?_
        rintro x w3 ⟨rfl, hb3⟩
        have hx3 := hx2.step hb3
        clear q0 z0
        obtain ⟨⟨q0, z0⟩, -⟩ := hx3.cells
        go_wp2_with fail
        refine (hM2' _ hx3.bel).mono ?_
        rintro x w4 ⟨rfl, hb4⟩
        have hx4 := hx3.step hb4
        go_wp2_with fail
        refine (wakes13_any _).mono ?_
        rintro x w5 ⟨rfl, hb5⟩
        go_wp2
        go_ret
        exact ⟨rfl, (hx4.step hb5).bel⟩
  · obtain ⟨A, c, rfl, _, _, _⟩ := hv
    obtain ⟨U, cu, rfl, _, _, _⟩ := ha
    obtain ⟨V, cv, rfl, _, _, _⟩ := hb
    have hx0 := (Bx.nil w).one (.slice A n c) 24
    have hd : Hid (decide (300 < n) = false) := by unfold Hid; simpa using hbig
    have d0 : decide ((300 : Int) < (m1 : Int) + (m2 : Int)) = true := by simp; omega
    clear hbig hM1' hM2'
    go_enter Try.func10, Try.ntmps10
    go_wp2_with fail
    refine (Great5_any _ n N _ (hv'.out.below hx0.bel)).mono ?_
    rintro x w2 ⟨rfl, hb2⟩
    rw [hd.out]
    go_wp2_with fail
    refine (wakes13_any _).mono ?_
    rintro x w3 ⟨rfl, hb3⟩
    go_wp2
    go_ret
    exact ⟨rfl, ((hx0.step hb2).step hb3).bel⟩
end Go.Proofs.Ytoppfcfalciibaa

