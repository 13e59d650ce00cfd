/- The law IdlConflict: the walk. -/
import Derived.Test.YtioceechdombjaaIdlI
import Derived.Test.YtioceechdombjaaIdlNumbers
import Derived.Test.YtioceechdombjaaWithin
import Derived.Deep.CutRange
namespace Go.Proofs.Ytioceechdombjaa
open Go.RowKit Go.Maps
set_option maxRecDepth 100000

/-- A world further on than w, with w's boxes, and than z. -/
def J3 (w : World) (K : List (Nat × Nat × Value)) (z x : World) : Prop := Bx w K x ∧ Below z.heap.size z x
theorem J3.step {w z x y : World} {K : List (Nat × Nat × Value)} (h : J3 w K z x) (hb : Below x.heap.size x y) : J3 w K z y := ⟨h.1.step hb, h.2.trans (hb.mono h.2.size)⟩
theorem J3.one {w x : World} {K : List (Nat × Nat × Value)} (h : Bx w K x) : J3 w K x x := ⟨h, Below.refl _ _⟩
theorem J3.drew {w z x : World} {K : List (Nat × Nat × Value)} (h : J3 w K z x) : J3 w K z x.drew := h.step (Below.refl _ _).drew
theorem J3.alloc {w z x : World} {K : List (Nat × Nat × Value)} (h : J3 w K z x) (o : Obj) : J3 w K z (x.alloc o) := h.step ((Below.refl _ _).alloc (Nat.le_refl _) _)
theorem J3.cell {w z x : World} {k : Nat × Nat × Value} (h : J3 w [k] z x) : x.cell? ⟨k.1, k.2.1, none⟩ = some k.2.2 := h.1.cells.1.1
theorem J3.stepB {w z x y : World} {o : Nat} {v : Value} (h : J3 w [(w.heap.size, o, v)] z x) (hb : Below z.heap.size x y) (hz : w.heap.size < z.heap.size) : J3 w [(w.heap.size, o, v)] z y := by
  obtain ⟨⟨⟨⟨h0, h1⟩, -⟩, h2⟩, h3⟩ := h
  exact ⟨⟨⟨⟨(hb.cell (p := ⟨w.heap.size, o, none⟩) hz).trans h0, by have := hb.size; omega⟩, trivial⟩, h2.trans (hb.mono (Nat.le_of_lt hz))⟩, h3.trans hb⟩
theorem step_appV {ops : Array Oper} {o : Oper} {a : Act} {w : World} {K : Act → World → Prop} {Q : Exit → Act → World → Prop} {E : Prop} (hg : o.guard = none) (p q : Operand)
    (ho : o.op = .call { callee := .builtin .append, args := #[p, q], argTypes := #[27, 27] }) (base : Nat) (v : Value) (xs : List Int) (hp : a.eval p = v) (hown : OwnL w base v xs)
    (x : Value) (ys : List Int) (hq : a.eval q = x) (hx : IntsAt w x ys.length (gfn ys)) (hn : xs.length + ys.length ≤ 1000000) (hb : base ≤ w.heap.size) (zs : List Int) (hz : xs ++ ys = zs)
    (h : ∀ v' w', OwnL w' base v' zs → Below base w w' → K (a.put o.dst v') w') :
    if Region.wanted o (yielded ops a.tmps) = true then Oper.wp Try.prog o a w K Q else E := by
  subst hz
  rw [if_pos (by simp [Region.wanted, hg])]
  exact wp_appL p q ho base v xs hp hown x ys.length (gfn ys) hq hx hn hb fun v' w' h1 h2 _ => h v' w' (by rwa [gfn_map] at h1) h2

theorem J3.trans {w z y x : World} {K : List (Nat × Nat × Value)} (h : J3 w K z y) (k : J3 w K y x) : J3 w K z x := ⟨k.1, h.2.trans (k.2.mono h.2.size)⟩
theorem confP_ne {n : Nat} {N : Nat → Nd} {xs c : List Int} (h : ConfP n N xs c) : 0 < c.length := ConfI.ne (i := 0) ⟨h.sub, h.bad, fun _ hj => absurd hj (Nat.not_lt_zero _), Nat.zero_le _⟩
theorem ck_more {n : Nat} {N : Nat → Nd} {xs ys : List Int} (h : ckB n N xs = true) (he : ckE n N (xs ++ ys) = 0) : ckB n N (xs ++ ys) = true := by
  unfold ckB at h ⊢
  rw [Bool.and_eq_true] at h
  unfold ckE at he
  rw [if_pos h.1] at he
  rw [h.1, Bool.true_and]
  exact icB_mono (fun e hx => (edsL_sub (List.sublist_append_left xs ys)).subset hx) (icK_zero h.2) he h.2
theorem ints_sub {w : World} {g cap : Nat} {cs : List Int} (hc : ∀ i, i < cs.length → w.cell? ⟨g, i, none⟩ = some (.int .i64 (gfn cs i))) (hR : ∀ x ∈ cs, R64 x) (hg : g < w.heap.size) (hl : cs.length ≤ 1000) (a k : Nat) (hk : a + k ≤ cs.length) :
    IntsAt w (.slice (some ⟨g, a, none⟩) k cap) k (fun i => gfn cs (a + i)) :=
  ⟨_, _, rfl, by omega, fun i hi => hR _ (gfn_mem (by omega)), fun _ => ⟨g, a, rfl, hg, fun i hi => hc (a + i) (by omega)⟩⟩
theorem take_gfn (cs : List Int) (j : Nat) (hj : j ≤ cs.length) : (cs.take j).length = j ∧ ∀ i, i < j → gfn (cs.take j) i = gfn cs (0 + i) := by
  refine ⟨by simp; omega, fun i hi => ?_⟩
  unfold gfn
  rw [Nat.zero_add, List.getD_eq_getElem?_getD, List.getElem?_take_of_lt hi, List.getD_eq_getElem?_getD]
theorem drop_gfn (cs : List Int) (j : Nat) : (cs.drop j).length = cs.length - j ∧ ∀ i, gfn (cs.drop j) i = gfn cs (j + i) := by
  refine ⟨by simp, fun i => ?_⟩
  unfold gfn
  rw [List.getD_eq_getElem?_getD, List.getElem?_drop, List.getD_eq_getElem?_getD]

set_option maxHeartbeats 8000000 in
theorem Conf_main (v u1 u2 : Value) (n m1 m2 : Nat) (N : Nat → Nd) (f g : Nat → Int) (w : World) (hv : NdsAt w v n N) (hu : IntsAt w u1 m1 f) (ht : IntsAt w u2 m2 g) (hn : n ≤ 60) (hm1 : m1 ≤ 60) (hm2 : m2 ≤ 60) (hmay1 : mayT n N m1 f = true) (hmay2 : mayT n N m2 g = true) :
    Calls Try.prog 5 #[.agg #[v], u1, u2] w fun x w' => x = .returned (.bool true) ∧ Below w.heap.size w w' := by
  obtain ⟨hch, hxs⟩ := may_lst hmay1
  obtain ⟨-, hys⟩ := may_lst hmay2
  have hul := Lib.hid hu.lst
  have htl := Lib.hid ht.lst
  have hlx : ((List.range m1).map f).length = m1 := lst_len f m1
  have hly : ((List.range m2).map g).length = m2 := lst_len g m2
  generalize (List.range m1).map f = xs at *
  generalize (List.range m2).map g = ys at *
  subst hlx hly
  have hv' := Lib.hid hv
  have hu' := Lib.hid hu
  have ht' := Lib.hid ht
  have hmay1' := Lib.hid hmay1
  have hmay2' := Lib.hid hmay2
  have hch' := Lib.hid hch
  have hxs' := Lib.hid hxs
  have hxy : Hid (∀ x ∈ xs ++ ys, badLit n N x = false) := fun x hx => (List.mem_append.1 hx).elim (hxs x) (hys x)
  have hlxy : (xs ++ ys).length ≤ 1000 := by rw [List.length_append]; omega
  have hCk := fun (zs : List Int) (hz : ∀ x ∈ zs, badLit n N x = false) (hl : zs.length ≤ 1000) x (h : Below w.heap.size w x) z (hi : IntsAt x z zs.length (gfn zs)) => ICheck_any v z n N zs x (hv.below h) (by omega) hch hi hl hz
  have hCj := hCk (xs ++ ys) hxy.out hlxy
  have hCk' := Lib.hid hCk
  obtain ⟨A, c, rfl, _, _, hcs⟩ := hv
  obtain ⟨b, o, rfl, hbl, hcs⟩ := hcs (by have := hch.two; omega)
  obtain ⟨U, cu, rfl, _, _, _⟩ := hu
  obtain ⟨T, ct, rfl, _, _, _⟩ := ht
  have d1 : decide ((60 : Int) < (n : Int)) = false := decide_eq_false (by omega)
  have d2 : decide ((60 : Int) < (xs.length : Int)) = false := decide_eq_false (by omega)
  have d3 : decide ((60 : Int) < (ys.length : Int)) = false := decide_eq_false (by omega)
  have hx0 := (Bx.nil w).one (.slice (some ⟨b, o, none⟩) n c) 33
  clear hcs hch hxs hys hmay1 hmay2 hCk
  go_enter Try.func5, Try.ntmps5
  go_wp2_with fail
  refine (RMay13_any _ _ n xs.length N f _ (hv'.out.below hx0.bel) (by omega) (hu'.out.below hx0.bel)).mono ?_
  rintro e w2 ⟨rfl, hb2⟩
  rw [hmay1'.out]
  have hx2 := hx0.step hb2
  obtain ⟨⟨q2, _⟩, -⟩ := hx2.cells
  go_wp2_with fail
  refine (RMay13_any _ _ n ys.length N g _ (hv'.out.below hx2.bel) (by omega) (ht'.out.below hx2.bel)).mono ?_
  rintro e w3 ⟨rfl, hb3⟩
  rw [hmay2'.out]
  have hx3 := hx2.step hb3
  obtain ⟨⟨q3, _⟩, -⟩ := hx3.cells
  clear q2 hx2 hx0 hb2 hb3
  go_wp2_with fail
  refine (hCk'.out xs hxs'.out (by omega) w3 hx3.bel _ (hul.out.below hx3.bel)).mono ?_
  rintro e w4 ⟨z4, rfl, _, hb4⟩
  have hx4 := hx3.step hb4
  have z4 : w.heap.size < w4.heap.size := hx4.cells.1.2
  have q4 := hx4.cells.1.1
  clear q3 hx3 hb4
  have ja := Lib.hid (J3.one hx4).drew
  have jb := Lib.hid ((J3.one hx4).alloc (.cells #[] 3)).drew
  have lb : OwnL (w4.alloc (.cells #[] 3)).drew w4.heap.size (.slice (some ⟨w4.heap.size, 0, none⟩) 0 0) [] := OwnL.nn (Nat.le_refl _)
  have kb := hul.out.below jb.out.1.bel
  have hty := fun x (h : Below w.heap.size w x) => htl.out.below h
  have hRxy : ∀ x ∈ xs ++ ys, R64 x := fun x hx => (bad_R (by omega) (hxy.out x hx)).1
  have hl0 : ([] : List Int).length + xs.length ≤ 1000000 := by simp; omega
  have hl1 : xs.length + ys.length ≤ 1000000 := by omega
  have hmm : (xs ++ ys).length ≤ 9223372036854775807 := by omega
  go_upto_region 4 with fail
  go_cut [11, 12] from 56 (fun u1 u2 y => u1 = .bool (ckB n N (xs ++ ys)) ∧ u2 = .int .i64 (ckE n N (xs ++ ys)) ∧ Hid (Bx w ((w.heap.size, 0, .slice (some ⟨b, o, none⟩) n c) :: []) y))
  case first =>
    go_region_held3 (fun x => x.cell? ⟨w.heap.size, 0, none⟩ = some (.slice (some ⟨b, o, none⟩) n c))
      (first | exact ja.out.cell | exact jb.out.cell | exact j5.cell | exact j6.cell | exact j7.cell | fail)
      (first | (refine step_appV rfl (.tmp 58) (.tmp 59) rfl w4.heap.size _ [] rfl lb _ xs rfl kb hl0 jb.out.2.size xs rfl ?_; intro v5 y5 ho5 hb5; have j5 := J3.stepB jb.out hb5 z4; have k5 := hty y5 j5.1.bel)
             | (refine step_appV rfl (.tmp 60) (.tmp 61) rfl w4.heap.size _ xs rfl ho5 _ ys rfl k5 hl1 j5.2.size (xs ++ ys) rfl ?_; intro v6 y6 ho6 hb6; have j6 := J3.stepB j5 hb6 z4; have p6 := j6.1.bel; have i6 : IntsAt y6 v6 (xs ++ ys).length (gfn (xs ++ ys)) := ho6.ints hmm hRxy)
             | (go_at_call 13; (with_reducible refine Calls.mono (hCj _ p6 _ i6) ?_); rintro e y7 ⟨z7, rfl, ho7, hb7⟩; have j7 := j6.step hb7)
             | fail)
    all_goals (go_wp2_with fail; go_meet; exact ⟨rfl, rfl, j7.1⟩)
  case rest =>
    obtain ⟨rfl, rfl, hx5⟩ := hcut
    clear ja jb lb kb hty hl0 hl1 hmm hRxy hCj z4 q4 hx4
    obtain ⟨⟨q5, _⟩, -⟩ := hx5.out.cells
    go_wp2_with fail
    refine (Conflict_any _ _ n N xs wc (hv'.out.below hx5.out.bel) (by omega) hch'.out (hul.out.below hx5.out.bel) (by omega) hxs'.out).mono ?_
    rintro e w6 ⟨z6, cs, rfl, ho6, hcf, hcn, hb6⟩
    have hx6 := Lib.hid (hx5.out.step hb6)
    have hmore : Hid (ckB n N xs = true → ckE n N (xs ++ ys) = 0 → ckB n N (xs ++ ys) = true) := ck_more
    have hE0 : Hid (ckB n N xs = true → ckE n N xs = 0) := ckE_zero
    have hcf' := Lib.hid hcf
    have hcn' := Lib.hid hcn
    have ho6' := Lib.hid (ho6.base' (B' := w.heap.size) hx5.out.bel.size)
    clear hcf hcn ho6 hb6 hx5 q5
    go_upto_region 6 with fail
    go_cut [90] from 73 (fun u y => u = .bool false ∧ y = w6)
    case first =>
      clear ho6' hcf' hcn' hx6
      generalize ckE n N (xs ++ ys) = E2 at *
      generalize ckB n N (xs ++ ys) = B2 at *
      generalize ckE n N xs = E1 at *
      generalize ckB n N xs = B1 at *
      cases B1 with
      | true =>
        have e0 := hE0.out rfl
        subst e0
        cases B2 with
        | true =>
          go_wp2
          go_meet
          case rel => exact ⟨rfl, rfl⟩
        | false =>
          have e2 : ¬ E2 = 0 := fun h => Bool.noConfusion (hmore.out rfl h)
          have d4 : (E2 == 0) = false := by simpa using e2
          clear e2
          go_wp2
          go_meet
          case rel => exact ⟨rfl, rfl⟩
      | false =>
        by_cases e1 : E1 = 0
        · subst e1
          go_wp2
          go_meet
          case rel => exact ⟨rfl, rfl⟩
        · have d4 : (E1 == 0) = false := by simpa using e1
          clear e1
          go_wp2
          go_meet
          case rel => exact ⟨rfl, rfl⟩
    case rest =>
      obtain ⟨rfl, hwc⟩ := hcut
      rw [hwc]
      clear hwc
      cases hB : ckB n N xs with
      | false =>
        have hc0 := hcn'.out hB
        have hi6 := ho6'.out.ints (by rw [hc0]; simp) (by rw [hc0]; intro x hx; cases hx)
        rw [hc0] at hi6
        obtain ⟨Z, zc, rfl, _, _, _⟩ := hi6
        clear hB hc0
        go_wp2_with fail
        refine (wakes25_any _).mono ?_
        rintro e w7 ⟨rfl, hb7⟩
        go_wp2
        go_ret
        exact ⟨rfl, (hx6.out.step hb7).bel⟩
      | true =>
        have hP := Lib.hid (hcf'.out hB)
        have hckc : Hid (ckB n N cs = true) := by
          unfold Hid ckB
          unfold ckB at hB
          rw [Bool.and_eq_true] at hB
          rw [hB.1, hP.out.bad]; rfl
        have hless : Hid (∀ i, i < cs.length → ckB n N (cs.eraseIdx i) = false) := by
          intro i hi
          unfold ckB
          rw [hP.out.least i hi, Bool.and_false]
        obtain ⟨g0, cap, rfl, _, _⟩ := World.ownsRow.form ho6'.out (confP_ne hP.out)
        have hcl : cs.length ≤ 60 := Nat.le_trans hP.out.sub.length_le hm1
        have hvc : Hid (∀ x ∈ cs, badLit n N x = false) := fun x hx => hxs'.out x (hP.out.sub.subset hx)
        have hRc : Hid (∀ x ∈ cs, R64 x) := fun x hx => (bad_R (by omega) (hvc.out x hx)).1
        have hint6 := Lib.hid (ho6'.out.ints (by omega) hRc.out)
        clear hB hmore hE0
        obtain ⟨⟨q6, _⟩, -⟩ := hx6.out.cells
        go_wp2_with fail
        refine (hCk'.out cs hvc.out (by omega) w6 hx6.out.bel _ hint6.out).mono ?_
        rintro e w8 ⟨z8, rfl, _, hb8⟩
        rw [hckc.out]
        have hx8 := Lib.hid (hx6.out.step hb8)
        have hown8 := ho6'.out.below (hb8.mono (Nat.le_refl _)) (Nat.le_refl _)
        obtain ⟨-, hr1, hr2, -, hg8, -, -⟩ := hown8.room
        have hcell : Hid (∀ i, i < cs.length → w8.cell? ⟨g0, i, none⟩ = some (.int .i64 (gfn cs i))) := fun i hi => by
          have h := hown8.cell_at hi
          unfold gfn
          rw [getD_lt _ _ hi]; exact h
        have hcm : cap ≤ 9223372036854775807 := by unfold maxLen at hr2; omega
        have hz8 := hx8.out.cells.1.2
        have hm1' := Lib.hid hm1
        clear hb8 hown8 ho6' hint6 hx6 hcf' hcn' q6 hr2 hm1
        go_wp2
        go_loopw [108] (fun i wr => ∃ j : Nat, j ≤ cs.length ∧ i = .int .i64 j ∧ Hid (J3 w ((w.heap.size, 0, .slice (some ⟨b, o, none⟩) n c) :: []) w8 wr)) (fun i _ => cs.length - (intOf i).toNat)
        case atStart => exact ⟨0, Nat.zero_le _, rfl, J3.one hx8.out⟩
        case round =>
          clear hx8
          obtain ⟨j, hj, rfl, hJ⟩ := hrel
          have q8 := hJ.out.cell
          by_cases hlt : j < cs.length
          · have i1 : decide ((j : Int) < (cs.length : Int)) = true := decide_eq_true (by omega)
            have k1 : (j : Int) + 1 ≤ (cs.length : Int) := by omega
            have k2 : (cs.length : Int) ≤ (cap : Int) := by omega
            have k3 : (j : Int) + 1 ≤ (cap : Int) := by omega
            have k4 : (j : Int) ≤ (cap : Int) := by omega
            have k5 : (0 : Int) ≤ (j : Int) + 1 := by omega
            have k6 : (0 : Int) ≤ (j : Int) := by omega
            have hzr := hJ.out.2.size
            have kw : IntKind.i64.wrap ((j : Int) + 1) = (j : Int) + 1 := by rw [IntKind.wrap_i64]; omega
            have hw1 : Hid (IntsAt wr (.slice (some ⟨g0, j, none⟩) 1 (cap - j)) 1 (fun _ => gfn cs j)) :=
              ⟨_, _, rfl, by omega, fun _ _ => hRc.out _ (gfn_mem hlt), fun _ => ⟨g0, j, rfl, by omega, fun i hi => by rw [show i = 0 by omega]; exact (hJ.out.2.cell (p := ⟨g0, j, none⟩) hg8).trans (hcell.out j hlt)⟩⟩
            have hin : Hid (∃ k, k < xs.length ∧ gfn xs k = gfn cs j) := by
              obtain ⟨k, hk, e⟩ := List.getElem_of_mem (hP.out.sub.subset (gfn_mem hlt))
              exact ⟨k, hk, (getD_lt _ _ hk).trans e⟩
            go_wp2_with fail
            refine (Within_any _ _ xs.length (gfn xs) (gfn cs j) wr hw1.out (hul.out.below hJ.out.1.bel) (hRc.out _ (gfn_mem hlt)) hin.out).mono ?_
            rintro e w9 ⟨rfl, rfl⟩
            have hPS : ∃ P S : List Int, P.length = j ∧ S.length = cs.length - (j + 1) ∧ Hid (ckB n N (P ++ S) = false) ∧ Hid (∀ x ∈ P ++ S, badLit n N x = false) ∧
                Hid (∀ x, J3 w ((w.heap.size, 0, .slice (some ⟨b, o, none⟩) n c) :: []) w9 x → IntsAt x (.slice (some ⟨g0, 0, none⟩) j cap) P.length (gfn P)) ∧
                Hid (∀ x, J3 w ((w.heap.size, 0, .slice (some ⟨b, o, none⟩) n c) :: []) w9 x → ∀ A, (¬ cap = j + 1 → A = some ⟨g0, j + 1, none⟩) → IntsAt x (.slice A (cs.length - (j + 1)) (cap - (j + 1))) S.length (gfn S)) := by
              obtain ⟨t1, t2⟩ := take_gfn cs j (by omega)
              obtain ⟨s1, s2⟩ := drop_gfn cs (j + 1)
              refine ⟨cs.take j, cs.drop (j + 1), t1, s1, ?_, ?_, ?_, ?_⟩
              · unfold Hid
                rw [← List.eraseIdx_eq_take_drop_succ]
                exact hless.out j hlt
              · intro x hx
                rw [← List.eraseIdx_eq_take_drop_succ] at hx
                exact hvc.out x ((erase_sub cs j).subset hx)
              · intro x hx
                have hb := hJ.out.2.trans (hx.2.mono hzr)
                have hc : ∀ i, i < cs.length → x.cell? ⟨g0, i, none⟩ = some (.int .i64 (gfn cs i)) := fun i hi => (hb.cell (p := ⟨g0, i, none⟩) hg8).trans (hcell.out i hi)
                rw [t1]
                exact (ints_sub (cap := cap) hc hRc.out (by have := hb.size; omega) (by omega) 0 j (by omega)).congr fun i hi => (t2 i hi).symm
              · intro x hx A hA
                have hb := hJ.out.2.trans (hx.2.mono hzr)
                have hc : ∀ i, i < cs.length → x.cell? ⟨g0, i, none⟩ = some (.int .i64 (gfn cs i)) := fun i hi => (hb.cell (p := ⟨g0, i, none⟩) hg8).trans (hcell.out i hi)
                rw [s1]
                by_cases hce : cap = j + 1
                · exact ⟨_, _, rfl, by omega, fun i hi => by omega, fun h0 => by omega⟩
                · rw [hA hce]
                  exact (ints_sub (cap := cap - (j + 1)) hc hRc.out (by have := hb.size; omega) (by omega) (j + 1) (cs.length - (j + 1)) (by omega)).congr fun i hi => (s2 i).symm
            obtain ⟨P, S, hPl, hSl, hfalse, hbPS, hIP, hIS⟩ := hPS
            have z9 : w.heap.size < w9.heap.size := by omega
            have hx9 := Lib.hid hJ.out.1
            have ja := Lib.hid (J3.one hx9.out).drew
            have jb := Lib.hid ((J3.one hx9.out).alloc (.cells #[] 3)).drew
            have lb : OwnL (w9.alloc (.cells #[] 3)).drew w9.heap.size (.slice (some ⟨w9.heap.size, 0, none⟩) 0 0) [] := OwnL.nn (Nat.le_refl _)
            have kb := hIP.out _ jb.out
            have hl0 : ([] : List Int).length + P.length ≤ 1000000 := by simp; omega
            have hl1 : P.length + S.length ≤ 1000000 := by omega
            have hlPS : (P ++ S).length ≤ 1000 := by rw [List.length_append]; omega
            have hmm : (P ++ S).length ≤ 9223372036854775807 := by omega
            have hRPS : ∀ x ∈ P ++ S, R64 x := fun x hx => (bad_R (by omega) (hbPS.out x hx)).1
            have hCj := hCk'.out (P ++ S) hbPS.out hlPS
            clear hPl hSl hw1 hin
            go_upto_region 16 with fail
            go_cut [20] from 119 to 136 (fun u y => u = .bool false ∧ Hid (J3 w ((w.heap.size, 0, .slice (some ⟨b, o, none⟩) n c) :: []) w9 y))
            case first =>
              by_cases hce : cap = j + 1
              · have hcj := Lib.hid hce
                have hcT : (cap = j + 1) = True := eq_true hce
                clear hce
                go_region_held3 (fun x => x.cell? ⟨w.heap.size, 0, none⟩ = some (.slice (some ⟨b, o, none⟩) n c))
                  (first | exact ja.out.cell | exact jb.out.cell | exact j5.cell | exact j6.cell | exact j7.cell | fail)
                  (first | (refine step_appV rfl (.tmp 121) (.tmp 124) rfl w9.heap.size _ [] rfl lb _ P rfl kb hl0 jb.out.2.size P rfl ?_; intro v5 y5 ho5 hb5; have j5 := J3.stepB jb.out hb5 z9; have k5 := hIS.out y5 j5)
                         | (refine step_appV rfl (.tmp 125) (.tmp 129) rfl w9.heap.size _ P rfl ho5 _ S rfl (k5 _ (fun h => absurd hcj.out h)) hl1 j5.2.size (P ++ S) rfl ?_; intro v6 y6 ho6 hb6; have j6 := J3.stepB j5 hb6 z9; have p6 := j6.1.bel; have i6 : IntsAt y6 v6 (P ++ S).length (gfn (P ++ S)) := ho6.ints hmm hRPS)
                         | (go_at_call 13; (with_reducible refine Calls.mono (hCj _ p6 _ i6) ?_); rintro e y7 ⟨z7, rfl, ho7, hb7⟩; have j7 := j6.step hb7)
                         | fail)
                all_goals (go_wp2_with fail; go_meet; exact ⟨by rw [hfalse.out], j7⟩)
              · have hcT : (cap = j + 1) = False := eq_false hce
                clear hce
                go_region_held3 (fun x => x.cell? ⟨w.heap.size, 0, none⟩ = some (.slice (some ⟨b, o, none⟩) n c))
                  (first | exact ja.out.cell | exact jb.out.cell | exact j5.cell | exact j6.cell | exact j7.cell | fail)
                  (first | (refine step_appV rfl (.tmp 121) (.tmp 124) rfl w9.heap.size _ [] rfl lb _ P rfl kb hl0 jb.out.2.size P rfl ?_; intro v5 y5 ho5 hb5; have j5 := J3.stepB jb.out hb5 z9; have k5 := hIS.out y5 j5)
                         | (refine step_appV rfl (.tmp 125) (.tmp 129) rfl w9.heap.size _ P rfl ho5 _ S rfl (k5 _ (fun _ => rfl)) hl1 j5.2.size (P ++ S) rfl ?_; intro v6 y6 ho6 hb6; have j6 := J3.stepB j5 hb6 z9; have p6 := j6.1.bel; have i6 : IntsAt y6 v6 (P ++ S).length (gfn (P ++ S)) := ho6.ints hmm hRPS)
                         | (go_at_call 13; (with_reducible refine Calls.mono (hCj _ p6 _ i6) ?_); rintro e y7 ⟨z7, rfl, ho7, hb7⟩; have j7 := j6.step hb7)
                         | fail)
                all_goals (go_wp2_with fail; go_meet; exact ⟨by rw [hfalse.out], j7⟩)
            case rest =>
              obtain ⟨rfl, hJ9⟩ := hcut
              clear ja jb lb kb hCj hRPS hmm hl0 hl1 hlPS
              go_wp2
              go_roundw
              case rel => exact ⟨j + 1, by omega, by go_num, hJ.out.trans hJ9.out⟩
              case measure => simp [intOf]; omega
          · have i1 : decide ((j : Int) < (cs.length : Int)) = false := decide_eq_false (by omega)
            go_wp2_with fail
            refine (wakes25_any _).mono ?_
            rintro e w7 ⟨rfl, hb7⟩
            go_wp2
            go_ret
            exact ⟨rfl, (hJ.out.1.step hb7).bel⟩

set_option maxHeartbeats 2000000 in
theorem Conf_any (v u1 u2 : Value) (n m1 m2 : Nat) (N : Nat → Nd) (f g : Nat → Int) (w : World) (hv : NdsAt w v n N) (hu : IntsAt w u1 m1 f) (ht : IntsAt w u2 m2 g) :
    Calls Try.prog 5 #[.agg #[v], u1, u2] w fun x w' => x = .returned (.bool true) ∧ Below w.heap.size w w' := by
  have hv' := Lib.hid hv
  have hu' := Lib.hid hu
  have ht' := Lib.hid ht
  obtain ⟨A, c, rfl, _, _, _⟩ := hv
  obtain ⟨U, cu, rfl, _, _, _⟩ := hu
  obtain ⟨T, ct, rfl, _, _, _⟩ := ht
  have hx0 := (Bx.nil w).one (.slice A n c) 33
  by_cases hn : n ≤ 60
  · have d1 : decide ((60 : Int) < (n : Int)) = false := decide_eq_false (by omega)
    by_cases hm : m1 ≤ 60
    · have d2 : decide ((60 : Int) < (m1 : Int)) = false := decide_eq_false (by omega)
      by_cases hk : m2 ≤ 60
      · have d3 : decide ((60 : Int) < (m2 : Int)) = false := decide_eq_false (by omega)
        cases hmay : mayT n N m1 f with
        | true =>
          cases hmay2 : mayT n N m2 g with
          | true => exact Conf_main (.slice A n c) (.slice U m1 cu) (.slice T m2 ct) n m1 m2 N f g w hv'.out hu'.out ht'.out hn hm hk hmay hmay2
          | false =>
            have hmay' := Lib.hid hmay
            have hmay2' := Lib.hid hmay2
            clear hmay hmay2
            go_enter Try.func5, Try.ntmps5
            go_wp2_with fail
            refine (RMay13_any _ _ n m1 N f _ (hv'.out.below hx0.bel) (by omega) (hu'.out.below hx0.bel)).mono ?_
            rintro e w2 ⟨rfl, hb2⟩
            rw [hmay'.out]
            have hx2 := hx0.step hb2
            obtain ⟨⟨q2, _⟩, -⟩ := hx2.cells
            go_wp2_with fail
            refine (RMay13_any _ _ n m2 N g _ (hv'.out.below hx2.bel) (by omega) (ht'.out.below hx2.bel)).mono ?_
            rintro e w3 ⟨rfl, hb3⟩
            rw [hmay2'.out]
            have hx3 := hx2.step hb3
            go_wp2_with fail
            refine (wakes25_any _).mono ?_
            rintro e w7 ⟨rfl, hb7⟩
            go_wp2
            go_ret
            exact ⟨rfl, (hx3.step hb7).bel⟩
        | false =>
          have hmay' := Lib.hid hmay
          clear hmay
          go_enter Try.func5, Try.ntmps5
          go_wp2_with fail
          refine (RMay13_any _ _ n m1 N f _ (hv'.out.below hx0.bel) (by omega) (hu'.out.below hx0.bel)).mono ?_
          rintro e w2 ⟨rfl, hb2⟩
          rw [hmay'.out]
          have hx2 := hx0.step hb2
          go_wp2_with fail
          refine (wakes25_any _).mono ?_
          rintro e w7 ⟨rfl, hb7⟩
          go_wp2
          go_ret
          exact ⟨rfl, (hx2.step hb7).bel⟩
      · have d3 : decide ((60 : Int) < (m2 : Int)) = true := decide_eq_true (by omega)
        go_enter Try.func5, Try.ntmps5
        go_wp2_with fail
        refine (wakes25_any _).mono ?_
        rintro e w7 ⟨rfl, hb7⟩
        go_wp2
        go_ret
        exact ⟨rfl, (hx0.step hb7).bel⟩
    · have d2 : decide ((60 : Int) < (m1 : Int)) = true := decide_eq_true (by omega)
      go_enter Try.func5, Try.ntmps5
      go_wp2_with fail
      refine (wakes25_any _).mono ?_
      rintro e w7 ⟨rfl, hb7⟩
      go_wp2
      go_ret
      exact ⟨rfl, (hx0.step hb7).bel⟩
  · have d1 : decide ((60 : Int) < (n : Int)) = true := decide_eq_true (by omega)
    go_enter Try.func5, Try.ntmps5
    go_wp2_with fail
    refine (wakes25_any _).mono ?_
    rintro e w7 ⟨rfl, hb7⟩
    go_wp2
    go_ret
    exact ⟨rfl, (hx0.step hb7).bel⟩
end Go.Proofs.Ytioceechdombjaa
