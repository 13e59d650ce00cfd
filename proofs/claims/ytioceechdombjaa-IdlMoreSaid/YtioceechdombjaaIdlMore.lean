/- The law IdlMore: the walk. -/
import Derived.Test.YtioceechdombjaaIdlI
import Derived.Test.YtioceechdombjaaIdlNumbers
import Derived.Test.YtioceechdombjaaKindR
import Derived.Deep.CutRange
namespace Go.Proofs.Ytioceechdombjaa
open Go.RowKit Go.Maps
set_option maxRecDepth 100000

theorem neg_neg {n : Nat} {N : Nat → Nd} : ∀ {xs : List Int}, (∀ x ∈ xs, badLit n N x = false) → (xs.map negL).map negL = xs
  | [], _ => rfl
  | x :: xs, h => by
    rw [List.map_cons, List.map_cons, (bad_neg (h x (by simp))).2.2.1, neg_neg fun y hy => h y (by simp [hy])]
theorem sumN_one {f : Nat → Int} (h : ∀ i, 0 ≤ f i) : ∀ {n i : Nat}, i < n → f i ≤ sumN f n
  | 0, i, hi => absurd hi (Nat.not_lt_zero i)
  | n + 1, i, hi => by
    show f i ≤ sumN f n + f n
    have h1 := sumN_nonneg h n
    by_cases e : i = n
    · subst e; omega
    · have := sumN_one h (n := n) (i := i) (by omega)
      have := h n
      omega
theorem num_in_sum {n : Nat} {N : Nat → Nd} {s : Int} (hs : sumI N n = some s) {i : Nat} (hi : i < n) (hop : (N i).op = 12) : absI (N i).num + 1 ≤ s := by
  rw [sumI_val hs]
  have h := sumN_one (f := fun i => if hasNum N i then absI (N i).num + 1 else 0) (fun i => by have := absI_nn (N i).num; split <;> omega) hi
  have hh : hasNum N i = true := by unfold hasNum; rw [hop]; rfl
  rwa [hh, if_pos rfl] at h
theorem pair_bad {n : Nat} {N : Nat → Nd} (hc : CheckP n N) (hn : n ≤ 4096) {x : Int} (hx : badLit n N x = false) (hd : isD N x = true) {s : Int} (hs : sumI N n = some s) (hlt : s < 576460752303423488) : ckB n N ([x, negL x].map negL) = true := by
  obtain ⟨g1, g2, g3, g4⟩ := bad_neg hx
  have hso : sumOk N n = true := by unfold sumOk; rw [hs]; rfl
  have hl : ([x, negL x].map negL) = [negL x, x] := by show [negL x, negL (negL x)] = _; rw [g3]
  have hd' : isD N (negL x) = true := by unfold isD; rw [g4]; exact hd
  have hE : edsL N [negL x, x] = [edOf N (negL x), edOf N x] := by
    unfold edsL edsL edsL
    rw [if_pos hd', if_pos hd]
  obtain ⟨x0, hid, _, _, _, _, n0, n1⟩ := diff_at hc hx hd
  have hop : (N (x / 2).toNat).op = 12 := by simpa [isD] using hd
  have hab := num_in_sum hs hid hop
  have ha : (N (x / 2).toNat).num ≤ absI (N (x / 2).toNat).num ∧ - (N (x / 2).toNat).num ≤ absI (N (x / 2).toNat).num := by unfold absI; split <;> omega
  have hv : ∀ y ∈ [negL x, x], badLit n N y = false := by
    intro y hy
    rcases List.mem_cons.1 hy with rfl | hy
    · exact g1
    · rw [List.mem_singleton.1 hy]; exact hx
  have hpar : negL x % 2 = 1 - x % 2 := by unfold negL; split <;> omega
  rw [hl]
  have key : ∀ (P : Ed → Ed → Prop), P (edOf N (negL x)) (edOf N x) ↔ P (if negL x % 2 = 1 then ⟨(N (x / 2).toNat).a0, (N (x / 2).toNat).a1, -(N (x / 2).toNat).num - 1⟩ else ⟨(N (x / 2).toNat).a1, (N (x / 2).toNat).a0, (N (x / 2).toNat).num⟩)
      (if x % 2 = 1 then ⟨(N (x / 2).toNat).a0, (N (x / 2).toNat).a1, -(N (x / 2).toNat).num - 1⟩ else ⟨(N (x / 2).toNat).a1, (N (x / 2).toNat).a0, (N (x / 2).toNat).num⟩) := by
    intro P
    unfold edOf
    rw [g4]
  have hk : icK n N [negL x, x] = 0 := by
    rw [icK_iff hc hn hv, hE]
    have : (-4611686018427387904 ≤ (edOf N (negL x)).wt ∧ (edOf N (negL x)).wt ≤ 4611686018427387904) ∧ (-4611686018427387904 ≤ (edOf N x).wt ∧ (edOf N x).wt ≤ 4611686018427387904) ∧ absI (edOf N (negL x)).wt + 1 + (absI (edOf N x).wt + 1) ≤ 4611686018427387904 := by
      rw [key (fun a b => (-4611686018427387904 ≤ a.wt ∧ a.wt ≤ 4611686018427387904) ∧ (-4611686018427387904 ≤ b.wt ∧ b.wt ≤ 4611686018427387904) ∧ absI a.wt + 1 + (absI b.wt + 1) ≤ 4611686018427387904)]
      generalize N (x / 2).toNat = E at *
      rw [hpar]
      unfold absI at *
      by_cases h1 : x % 2 = 1
      · rw [if_neg (by omega), if_pos h1]
        refine ⟨⟨?_, ?_⟩, ⟨?_, ?_⟩, ?_⟩ <;> dsimp only <;> (try split) <;> (try split) <;> (split at hab) <;> omega
      · rw [if_pos (by omega), if_neg h1]
        refine ⟨⟨?_, ?_⟩, ⟨?_, ?_⟩, ?_⟩ <;> dsimp only <;> (try split) <;> (try split) <;> (split at hab) <;> omega
    refine ⟨fun e he => ?_, ?_⟩
    · rcases List.mem_cons.1 he with rfl | he
      · exact this.1
      · rw [List.mem_singleton.1 he]; exact this.2.1
    · show absI (edOf N (negL x)).wt + 1 + (absI (edOf N x).wt + 1 + 0) ≤ _
      omega
  unfold ckB
  rw [hso, Bool.true_and, icB_iff hk, hE]
  rintro ⟨p, hp⟩
  have h1 := hp (edOf N (negL x)) (by simp)
  have h2 := hp (edOf N x) (by simp)
  have : p (edOf N (negL x)).dst.toNat ≤ p (edOf N (negL x)).src.toNat + (edOf N (negL x)).wt ∧ p (edOf N x).dst.toNat ≤ p (edOf N x).src.toNat + (edOf N x).wt := ⟨h1, h2⟩
  rw [key (fun a b => p a.dst.toNat ≤ p a.src.toNat + a.wt ∧ p b.dst.toNat ≤ p b.src.toNat + b.wt)] at this
  rw [hpar] at this
  generalize N (x / 2).toNat = E at *
  by_cases h1 : x % 2 = 1
  · rw [if_neg (by omega), if_pos h1] at this
    obtain ⟨t1, t2⟩ := this
    dsimp only at t1 t2
    omega
  · rw [if_pos (by omega), if_neg h1] at this
    obtain ⟨t1, t2⟩ := this
    dsimp only at t1 t2
    omega

theorem sumIV_form (N : Nat → Nd) (n : Nat) : ∃ (sa : Int) (sb : Bool), sumIV N n = .tuple #[.int .i64 sa, .bool sb] ∧ (sb = true → sumI N n = some sa) := by
  unfold sumIV sumR sumI
  cases sumTo (gfn (numsL N n)) 2305843009213693952 (numsL N n).length with
  | none => exact ⟨0, false, rfl, fun h => by cases h⟩
  | some s => exact ⟨s, true, rfl, fun _ => rfl⟩
theorem ints2' (w : World) (x y : Int) (hx : R64 x) (hy : R64 y) : IntsAt (w.alloc (.cells #[.int .i64 x, .int .i64 y] 3)) (.slice (some ⟨w.heap.size, 0, none⟩) 2 2) [x, y].length (gfn [x, y]) := ints2 w x y hx hy

set_option maxHeartbeats 4000000 in
theorem More_main (v u : Value) (n m : Nat) (N : Nat → Nd) (f : Nat → Int) (w : World) (hv : NdsAt w v n N) (hu : IntsAt w u m f) (hn : n ≤ 60) (hm : m ≤ 60) (hmay : mayT n N m f = true) :
    Calls Try.prog 6 #[.agg #[v], u] w fun x w' => x = .returned (.bool true) ∧ Below w.heap.size w w' := by
  obtain ⟨hch, hxs⟩ := may_lst hmay
  have hul := Lib.hid hu.lst
  have hlx : ((List.range m).map f).length = m := lst_len f m
  generalize (List.range m).map f = xs at *
  subst hlx
  have hv' := Lib.hid hv
  have hu' := Lib.hid hu
  have hmay' := Lib.hid hmay
  have hch' := Lib.hid hch
  have hxs' := Lib.hid hxs
  obtain ⟨A, c, rfl, _, _, hcs⟩ := hv
  obtain ⟨b, o, rfl, hbl, hcs⟩ := hcs (by have := hch.two; omega)
  obtain ⟨U, cu, rfl, _, _, _⟩ := hu
  have d1 : decide ((60 : Int) < (n : Int)) = false := decide_eq_false (by omega)
  have d2 : decide ((60 : Int) < (xs.length : Int)) = false := decide_eq_false (by omega)
  have hx0 := (Bx.nil w).one (.slice (some ⟨b, o, none⟩) n c) 33
  clear hcs hch hxs hmay
  go_enter Try.func6, Try.ntmps6
  go_wp2_with fail
  refine (RMay13_any _ _ n xs.length N f _ (hv'.out.below hx0.bel) (by omega) (hu'.out.below hx0.bel)).mono ?_
  rintro e w2 ⟨rfl, hb2⟩
  rw [hmay'.out]
  have hx2 := hx0.step hb2
  obtain ⟨⟨q2, _⟩, -⟩ := hx2.cells
  go_wp2_with fail
  refine (Conflict_any _ _ n N xs w2 (hv'.out.below hx2.bel) (by omega) hch'.out (hul.out.below hx2.bel) (by omega) hxs'.out).mono ?_
  rintro e w3 ⟨z3, cs, rfl, ho3, hcf, hcn, hb3⟩
  have hx3 := Lib.hid (hx2.step hb3)
  have hcv : Hid ((∀ x ∈ cs, badLit n N x = false) ∧ cs.length ≤ 60) := by
    cases hB : ckB n N xs with
    | true => exact ⟨fun x hx => hxs'.out x ((hcf hB).sub.subset hx), Nat.le_trans (hcf hB).sub.length_le hm⟩
    | false => rw [hcn hB]; exact ⟨fun x hx => (by cases hx), by simp⟩
  have hlem : Hid (ckB n N xs = true → ckB n N ((cs.map negL).map negL) = true) := by
    intro hB
    rw [neg_neg hcv.out.1]
    have h1 := (hcf hB).bad
    unfold ckB at hB ⊢
    rw [Bool.and_eq_true] at hB
    rw [hB.1, h1]; rfl
  have hints := ho3.ints (by have := hcv.out.2; omega) (fun x hx => (bad_R (by omega) (hcv.out.1 x hx)).1)
  obtain ⟨Z, zc, rfl, _, _, hzc⟩ := hints
  have hzc' := Lib.hid hzc
  have hm' := Lib.hid hm
  have hn' := Lib.hid hn
  have hsz3 := hx3.out.cells.1.2
  clear ho3 hcf hcn hb3 hx2 hx0 q2 hb2 hzc
  go_wp2
  go_loopw [7, 38] (fun z i wr => ∃ j : Nat, j ≤ cs.length ∧ i = .int .i64 j ∧ Hid (OwnL wr w3.heap.size z ((cs.map negL).take j)) ∧ Hid (Below w3.heap.size w3 wr)) (fun _ i _ => cs.length - (intOf i).toNat)
  case atStart => exact ⟨0, Nat.zero_le _, rfl, OwnL.nil _ _, Below.refl _ _⟩
  case round =>
    obtain ⟨j, hj, rfl, hown, hbx⟩ := hrel
    have hcl := hcv.out.2
    have hzz := hbx.out.size
    by_cases hlt : j < cs.length
    · obtain ⟨zb, zo, rfl, hzb, hzc⟩ := hzc'.out (by omega)
      have rj : wr.cell? ⟨zb, zo + j, none⟩ = some (.int .i64 (gfn cs j)) := (hbx.out.cell (p := ⟨zb, zo + j, none⟩) hzb).trans (hzc j hlt)
      have hbj := hcv.out.1 _ (gfn_mem hlt)
      have hnx : Hid ((cs.map negL).take (j + 1) = (cs.map negL).take j ++ [negL (gfn cs j)]) := by
        unfold Hid
        rw [← List.map_take, take_next cs j hlt, List.map_append, List.map_take]
        rfl
      have h0 := (badLit_lt hbj).1
      have h1 := (bad_R (by omega) hbj).2
      have i1 : decide ((j : Int) < (cs.length : Int)) = true := decide_eq_true (by omega)
      clear hbj hzc
      generalize gfn cs j = X at *
      have hxor := i64_xor_one X h0 (by omega)
      have hlen : ((cs.map negL).take j).length ≤ 1000000 := by simp; omega
      go_wp2_with (at_builtin; refine wpList_app1 rfl rfl _ _ rfl w3.heap.size _ _ (negL X) rfl (hown.out.alloc _) wr.heap.size 1 rfl ?c1 ?c2 ?c3 ?_)
      case c1 => simp
      case c2 => exact hlen
      case c3 => simp; omega
      intro v' w4 hown4 hb4 _
      go_wp2
      go_roundw
      case rel => exact ⟨j + 1, by omega, by go_num, by rw [hnx.out]; exact hown4, (hbx.out.alloc hzz _).trans hb4⟩
      case measure => simp [intOf]; omega
    · have hjl : j = cs.length := by omega
      subst hjl
      rw [show cs.length = (cs.map negL).length by simp, List.take_length] at hown
      have hx4 : Hid (Bx w ((w.heap.size, 0, .slice (some ⟨b, o, none⟩) n c) :: []) wr) := hx3.out.step hbx.out
      have hnv : Hid (∀ x ∈ cs.map negL, badLit n N x = false) := by
        intro x hx
        obtain ⟨y, hy, rfl⟩ := List.mem_map.1 hx
        exact (bad_neg (hcv.out.1 y hy)).1
      have hLl : (cs.map negL).length ≤ 60 := by rw [List.length_map]; exact hcl
      have hlem' : Hid (ckB n N xs = true → ckB n N ((cs.map negL).map negL) = true) := hlem.out
      clear hlem hzc' hcv hj hcl hlt
      have i1 : decide ((cs.length : Int) < (cs.length : Int)) = false := decide_eq_false (by omega)
      generalize cs.map negL = L at *
      have hit := hown.out.ints (by omega) (fun x hx => (bad_R (by omega) (hnv.out x hx)).1)
      have hit' := Lib.hid hit
      obtain ⟨T, tc, rfl, _, _, _⟩ := hit
      obtain ⟨⟨q4, _⟩, -⟩ := hx4.out.cells
      clear hown hx3
      generalize ckB n N xs = B at *
      go_upto_region 10 with fail
      go_cut [54] from 48 (fun u w' => u = .bool false ∧ Hid (Bx w ((w.heap.size, 0, .slice (some ⟨b, o, none⟩) n c) :: []) w'))
      case first =>
        cases B with
        | true =>
          have hlm := Lib.hid (hlem'.out rfl)
          go_wp2_with fail
          refine (Lemma_any _ _ n N L wr (hv'.out.below hx4.out.bel) (by have := hn'.out; omega) hch'.out hit'.out (by omega) hnv.out).mono ?_
          rintro e w5 ⟨rfl, hb5⟩
          rw [hlm.out]
          have hx5 := Lib.hid (hx4.out.step hb5)
          clear hb5 q4
          go_wp2
          go_meet
          case rel => exact ⟨rfl, hx5.out⟩
        | false =>
          go_wp2
          go_meet
          case rel => exact ⟨rfl, hx4.out⟩
      case rest =>
        clear hit' hnv hlem' hx4 q4
        obtain ⟨rfl, hx5⟩ := hcut
        obtain ⟨⟨q5, _⟩, -⟩ := hx5.out.cells
        go_wp2_with fail
        refine (ISum_any _ n N _ (hv'.out.below hx5.out.bel) (by have := hn'.out; omega) hch'.out).mono ?_
        rintro e w6 ⟨rfl, hb6⟩
        have hx6 := Lib.hid (hx5.out.step hb6)
        obtain ⟨sa, sb, hab, hsb⟩ := sumIV_form N n
        rw [hab]
        have hpair : Hid (∀ x ∈ xs, isD N x = true → sb = true → sa < 576460752303423488 → ckB n N ([x, negL x].map negL) = true) := fun x hx hd h1 h2 => pair_bad hch'.out (by have := hn'.out; omega) (hxs'.out x hx) hd (hsb h1) h2
        have huc : Hid (∀ j, j < xs.length → ∃ ub uo, U = some ⟨ub, uo, none⟩ ∧ ub < w.heap.size ∧ w.cell? ⟨ub, uo + j, none⟩ = some (.int .i64 (gfn xs j))) := by
          intro j hj
          obtain ⟨U', c', e, _, _, hc⟩ := hul.out
          injection e with e1 _ _
          subst e1
          obtain ⟨ub, uo, h1, h2, h3⟩ := hc (by omega)
          exact ⟨ub, uo, h1, h2, h3 j hj⟩
        clear hb6 hab hsb q5 hx5
        go_wp2
        go_loopw [62] (fun i wr => ∃ j : Nat, j ≤ xs.length ∧ i = .int .i64 j ∧ Hid (Bx w ((w.heap.size, 0, .slice (some ⟨b, o, none⟩) n c) :: []) wr)) (fun i _ => xs.length - (intOf i).toNat)
        case atStart => exact ⟨0, Nat.zero_le _, rfl, hx6.out⟩
        case round =>
          clear hx6
          obtain ⟨j, hj, rfl, hx⟩ := hrel
          obtain ⟨⟨q6, _⟩, -⟩ := hx.out.cells
          by_cases hlt : j < xs.length
          · obtain ⟨ub, uo, rfl, hub, huj⟩ := huc.out j hlt
            have rj := (hx.out.bel.cell (p := ⟨ub, uo + j, none⟩) hub).trans huj
            have hmem := Lib.hid (gfn_mem hlt)
            have hbj := Lib.hid (hxs'.out _ (gfn_mem hlt))
            have hlt' := badLit_lt hbj.out
            obtain ⟨x0, x1, x2, x3⟩ := hlt'
            have h1 := (bad_R (by have := hn'.out; omega) hbj.out).2
            have i1 : decide ((j : Int) < (xs.length : Int)) = true := decide_eq_true (by omega)
            clear huj
            generalize gfn xs j = X at *
            have hxor := i64_xor_one X x0 (by omega)
            have hRn : R64 (negL X) := by unfold R64 negL; split <;> omega
            have hRx : R64 X := by unfold R64; omega
            clear x3
            go_wp2_with fail
            refine (RKindI_any _ n (X / 2) N _ (hv'.out.below hx.out.bel) (by have := hn'.out; omega) hch'.out (by omega) x1 x2).mono ?_
            rintro e w7 ⟨k, rfl, hk6, hb7⟩
            have hx7 := Lib.hid (hx.out.step hb7)
            obtain ⟨⟨q7, _⟩, -⟩ := hx7.out.cells
            clear hb7 q6 rj
            by_cases hk : k = 6
            · have hD : Hid (isD N X = true) := by unfold Hid isD; rw [hk6.1 hk]; rfl
              subst hk
              clear hk6
              cases sb with
              | false =>
                go_wp2
                go_roundw
                case rel => exact ⟨j + 1, by omega, by go_num, hx7.out⟩
                case measure => simp [intOf]; omega
              | true =>
                by_cases hs9 : sa < 576460752303423488
                · have hck := Lib.hid (hpair.out X hmem.out hD.out rfl hs9)
                  have d9 : decide (sa < 576460752303423488) = true := decide_eq_true hs9
                  have hx8 := Lib.hid (hx7.out.skip (.cells #[.int .i64 X, .int .i64 (negL X)] 3))
                  have hi8 := Lib.hid (ints2' w7 X (negL X) hRx hRn)
                  have hv2 : Hid (∀ a ∈ [X, negL X], badLit n N a = false) := by
                    intro a ha
                    rcases List.mem_cons.1 ha with rfl | ha
                    · exact hbj.out
                    · rw [List.mem_singleton.1 ha]; exact (bad_neg hbj.out).1
                  go_wp2_with fail
                  refine (Lemma_any _ _ n N [X, negL X] _ (hv'.out.below hx8.out.bel) (by have := hn'.out; omega) hch'.out hi8.out (by simp) hv2.out).mono ?_
                  rintro e w9 ⟨rfl, hb9⟩
                  rw [hck.out]
                  have hx9 := Lib.hid (hx8.out.step hb9)
                  clear hb9
                  go_wp2
                  go_roundw
                  case rel => exact ⟨j + 1, by omega, by go_num, hx9.out⟩
                  case measure => simp [intOf]; omega
                · have d9 : decide (sa < 576460752303423488) = false := decide_eq_false hs9
                  go_wp2
                  go_roundw
                  case rel => exact ⟨j + 1, by omega, by go_num, hx7.out⟩
                  case measure => simp [intOf]; omega
            · have d6 : (k == 6) = false := by simpa using hk
              clear hk6
              go_wp2
              go_roundw
              case rel => exact ⟨j + 1, by omega, by go_num, hx7.out⟩
              case measure => simp [intOf]; omega
          · have i1 : decide ((j : Int) < (xs.length : Int)) = false := decide_eq_false (by omega)
            go_wp2_with fail
            refine (wakes25_any _).mono ?_
            rintro e w7 ⟨rfl, hb7⟩
            go_wp2
            go_ret
            exact ⟨rfl, (hx.out.step hb7).bel⟩

set_option maxHeartbeats 1000000 in
theorem IMore_any (v u : Value) (n m : Nat) (N : Nat → Nd) (f : Nat → Int) (w : World) (hv : NdsAt w v n N) (hu : IntsAt w u m f) :
    Calls Try.prog 6 #[.agg #[v], u] w fun x w' => x = .returned (.bool true) ∧ Below w.heap.size w w' := by
  have hv' := Lib.hid hv
  have hu' := Lib.hid hu
  obtain ⟨A, c, rfl, _, _, _⟩ := hv
  obtain ⟨U, cu, rfl, _, _, _⟩ := hu
  have hx0 := (Bx.nil w).one (.slice A n c) 33
  by_cases hn : n ≤ 60
  · by_cases hm : m ≤ 60
    · cases hmay : mayT n N m f with
      | true => exact More_main (.slice A n c) (.slice U m cu) n m N f w hv'.out hu'.out hn hm hmay
      | false =>
        have d1 : decide ((60 : Int) < (n : Int)) = false := decide_eq_false (by omega)
        have d2 : decide ((60 : Int) < (m : Int)) = false := decide_eq_false (by omega)
        have hmay' := Lib.hid hmay
        clear hmay
        go_enter Try.func6, Try.ntmps6
        go_wp2_with fail
        refine (RMay13_any _ _ n m N f _ (hv'.out.below hx0.bel) (by omega) (hu'.out.below hx0.bel)).mono ?_
        rintro e w2 ⟨rfl, hb2⟩
        rw [hmay'.out]
        have hx2 := hx0.step hb2
        go_wp2_with fail
        refine (wakes25_any _).mono ?_
        rintro e w7 ⟨rfl, hb7⟩
        go_wp2
        go_ret
        exact ⟨rfl, (hx2.step hb7).bel⟩
    · have d1 : decide ((60 : Int) < (n : Int)) = false := decide_eq_false (by omega)
      have d2 : decide ((60 : Int) < (m : Int)) = true := decide_eq_true (by omega)
      go_enter Try.func6, Try.ntmps6
      go_wp2_with fail
      refine (wakes25_any _).mono ?_
      rintro e w7 ⟨rfl, hb7⟩
      go_wp2
      go_ret
      exact ⟨rfl, (hx0.step hb7).bel⟩
  · have d1 : decide ((60 : Int) < (n : Int)) = true := decide_eq_true (by omega)
    go_enter Try.func6, Try.ntmps6
    go_wp2_with fail
    refine (wakes25_any _).mono ?_
    rintro e w7 ⟨rfl, hb7⟩
    go_wp2
    go_ret
    exact ⟨rfl, (hx0.step hb7).bel⟩
end Go.Proofs.Ytioceechdombjaa
