/- gantryref24.Closed. -/
import Derived.Test.YtoifcpdkophobaaGraphK
namespace Go.Proofs.Ytoifcpdkophobaa
open Go.RowKit

theorem cell_new1 (w : World) (t : TypeId) (y : Value) : (w.alloc (.cells #[y] t)).cell? ⟨w.heap.size, 0, none⟩ = some y := by simp
def wtsOf (f : Nat → Int) (E : Nat → Ed) : Nat → Int := fun i => (E (f i).toNat).wt
structure ClosedP (k m : Nat) (f : Nat → Int) (E : Nat → Ed) : Prop where
  pos : 0 < k
  rng : ∀ i, i < k → 0 ≤ f i ∧ f i < m
  inj : ∀ i j, j < i → i < k → f j ≠ f i
  sum : sumTo (wtsOf f E) 4611686018427387904 k ≠ none
  link : ∀ i, i < k → (E (f i).toNat).dst = (E (f ((i + 1) % k)).toNat).src
def ClosedPost (k m : Nat) (f : Nat → Int) (E : Nat → Ed) (v : Value) : Prop :=
  (ClosedP k m f E ∧ v = .tuple #[.int .i64 (sumN (wtsOf f E) k), .bool true]) ∨ (¬ ClosedP k m f E ∧ v = .tuple #[.int .i64 0, .bool false])
theorem closed_no {k m : Nat} {f : Nat → Int} {E : Nat → Ed} (h : ¬ ClosedP k m f E) : ClosedPost k m f E (.tuple #[.int .i64 0, .bool false]) := .inr ⟨h, rfl⟩
theorem closed_yes {k m : Nat} {f : Nat → Int} {E : Nat → Ed} (h : ClosedP k m f E) : ClosedPost k m f E (.tuple #[.int .i64 (sumN (wtsOf f E) k), .bool true]) := .inl ⟨h, rfl⟩
theorem sumN_bd {f : Nat → Int} {k : Nat} (h : sumTo f 4611686018427387904 k ≠ none) : ∀ i, i ≤ k → -4611686018427387904 ≤ sumN f i ∧ sumN f i ≤ 4611686018427387904 := by
  have h1 := ((sumTo_iff (by omega) k).1 h).2
  have key : ∀ i, -(sumN (fun i => absI (f i) + 1) i) ≤ sumN f i ∧ sumN f i ≤ sumN (fun i => absI (f i) + 1) i := by
    intro i
    induction i with
    | zero => exact ⟨Int.le_refl _, Int.le_refl _⟩
    | succ i ih =>
      show -(sumN (fun i => absI (f i) + 1) i + (absI (f i) + 1)) ≤ sumN f i + f i ∧ sumN f i + f i ≤ sumN (fun i => absI (f i) + 1) i + (absI (f i) + 1)
      have : -(absI (f i)) ≤ f i ∧ f i ≤ absI (f i) := by unfold absI; split <;> omega
      omega
  have mono : ∀ d i, sumN (fun i => absI (f i) + 1) i ≤ sumN (fun i => absI (f i) + 1) (i + d) := by
    intro d
    induction d with
    | zero => intro i; exact Int.le_refl _
    | succ d ih =>
      intro i
      have h2 := ih i
      show _ ≤ sumN (fun i => absI (f i) + 1) (i + d) + (absI (f (i + d)) + 1)
      have : 0 ≤ absI (f (i + d)) := by unfold absI; split <;> omega
      omega
  intro i hi
  have h3 := key i
  have h4 := mono (k - i) i
  rw [show i + (k - i) = k by omega] at h4
  omega

set_option maxRecDepth 100000 in
set_option maxHeartbeats 1600000 in
theorem RClosed_any (v u : Value) (m k : Nat) (E : Nat → Ed) (f : Nat → Int) (w : World) (hv : EdsAt w v m E) (hu : IntsAt w u k f) (hk : k ≤ 1000000) :
    Calls Try.prog 18 #[v, u] w fun e w' => ∃ r, e = .returned r ∧ ClosedPost k m f E r ∧ Below w.heap.size w w' := by
  have hr := Lib.hid hv.ranges
  obtain ⟨A, c, rfl, hm, _, hcl⟩ := hv
  obtain ⟨A2, c2, rfl, _, hr2, hcl2⟩ := hu
  have hcl' := Lib.hid hcl
  have hcl2' := Lib.hid hcl2
  have hr2' := Lib.hid hr2
  clear hcl hcl2 hr2
  by_cases hk0 : k = 0
  · subst hk0
    go_enter Try.func18, Try.ntmps18
    go_wp2
    go_ret2
    exact ⟨_, rfl, closed_no (fun h => by have := h.pos; omega), Below.refl _ _⟩
  have hkp : 0 < k := by omega
  have hd0 : ((k : Int) == 0) = false := by simp; omega
  clear hk0
  go_enter Try.func18, Try.ntmps18
  go_wp2
  go_loopw [8, 9] (fun v8 i wr => ∃ j : Nat, j ≤ k ∧ i = .int .i64 j ∧ Hid (∀ i, i < j → 0 ≤ f i ∧ f i < m) ∧ Hid (∀ i i', i' < i → i < j → f i' ≠ f i) ∧ OwnL wr w.heap.size v8 ((List.range j).map (wtsOf f E)) ∧ Below w.heap.size w wr) (fun _ i _ => k - (intOf i).toNat)
  case atStart => exact ⟨0, Nat.zero_le _, rfl, fun i hi => by omega, fun i i' h1 h2 => by omega, OwnL.nil _ _, Below.refl _ _⟩
  case round =>
    obtain ⟨i, hi, rfl, hrng, hinj, hown, hb⟩ := hrel
    have hz := hb.size
    have hown' := Lib.hid hown
    clear hown
    by_cases hlt : i < k
    · obtain ⟨b2, o2, rfl, hbl2, hcs2⟩ := hcl2'.out (by omega)
      have hcs2' := Lib.hid hcs2
      clear hcs2
      go_wp2
      obtain ⟨wo, hwo⟩ : ∃ wo : World, wo = wr := ⟨_, rfl⟩
      rw [← hwo]
      have hb := hwo ▸ hb
      have hz := hwo ▸ hz
      have hown' := hwo ▸ hown'
      clear hwo
      go_loopw [10] (fun c wr => ∃ j : Nat, j ≤ i ∧ c = .int .i64 j ∧ Hid (∀ i', i' < j → f i' ≠ f i) ∧ ∃ d, wr = wo.drewN d) (fun c _ => i - (intOf c).toNat)
      case atStart => exact ⟨0, Nat.zero_le _, rfl, fun i' h => by omega, 0, rfl⟩
      case round =>
        obtain ⟨j, hj, rfl, hne, d, rfl⟩ := hrel
        by_cases hlj : j < i
        · have p0 := (hb.cell (p := ⟨b2, o2 + j, none⟩) hbl2).trans (hcs2'.out j (by omega))
          have p1 := (hb.cell (p := ⟨b2, o2 + i, none⟩) hbl2).trans (hcs2'.out i (by omega))
          by_cases he : f j = f i
          · have hno : Hid (¬ ClosedP k m f E) := fun h => h.inj i j hlj hlt he
            have hde : (f j == f i) = true := by simp [he]
            have he' := Lib.hid he
            generalize f j = x at *
            generalize f i = y at *
            clear he
            go_wp2
            go_quiet (fail)
            go_wp2
            go_ret2
            exact ⟨_, rfl, closed_no hno.out, below_drewN (below_drewN hb _) _⟩
          · have hde : (f j == f i) = false := by simp [he]
            have he' := Lib.hid he
            generalize hx : f j = x at *
            generalize hy : f i = y at *
            have hx' := Lib.hid hx
            have hy' := Lib.hid hy
            clear he hx hy
            go_wp2
            go_quiet (fail)
            go_wp2
            go_roundw
            case rel =>
              refine ⟨j + 1, by omega, by go_num, fun i' h => ?_, _, rfl⟩
              by_cases e : i' = j
              · subst e; rw [hx'.out]; exact he'.out
              · exact hne.out i' (by omega)
            case measure => simp [intOf]; omega
        · have p1 := (hb.cell (p := ⟨b2, o2 + i, none⟩) hbl2).trans (hcs2'.out i (by omega))
          obtain ⟨r0, r1⟩ := hr2'.out i hlt
          have hbd := below_drewN hb d
          by_cases t0 : f i < 0
          · have hno : Hid (¬ ClosedP k m f E) := fun h => by have := h.rng i hlt; omega
            go_wp2
            go_ret2
            exact ⟨_, rfl, closed_no hno.out, hbd⟩
          by_cases t1 : (m : Int) ≤ f i
          · have hno : Hid (¬ ClosedP k m f E) := fun h => by have := h.rng i hlt; omega
            go_wp2
            go_ret2
            exact ⟨_, rfl, closed_no hno.out, hbd⟩
          have t0' : 0 ≤ f i := by omega
          have t1' : f i < m := by omega
          obtain ⟨a, ha⟩ := Int.eq_ofNat_of_zero_le t0'
          have ham : a < m := by omega
          obtain ⟨b, o, rfl, hbl, hcs⟩ := hcl'.out (by omega)
          have p2 := (hb.cell (p := ⟨b, o + a * 3 + 2, none⟩) hbl).trans (hcs a ham).2.2
          have hwt : Hid (wtsOf f E i = (E a).wt) := by unfold wtsOf; rw [ha]; rfl
          rw [ha] at p1
          have ha' := Lib.hid ha
          clear hcs t0 t1 t0' t1' r0 r1 ha
          generalize hz2 : (E a).wt = z at *
          clear hz2
          have hno : OwnL (wo.drewN d) w.heap.size _ _ := hown'.out
          go_wp2_with (at_builtin; refine wpList_app1 rfl rfl _ _ rfl w.heap.size _ _ z rfl (hno.alloc _) wo.heap.size 1 rfl ?c1 ?c2 ?c3 ?_)
          case c1 => exact cell_new1 (wo.drewN d) _ _
          case c2 => first | omega | (simp; omega)
          case c3 => first | omega | (simp; omega)
          intro v' w6 ho hb6 _
          have hbr : Below w.heap.size w w6 := (hbd.alloc hbd.size _).trans hb6
          go_wp2
          go_roundw
          case rel =>
            refine ⟨i + 1, by omega, by go_num, fun i' h => ?_, fun i' i'' h1 h2 => ?_, ?_, hbr⟩
            · by_cases e : i' = i
              · subst e; rw [ha'.out]; omega
              · exact hrng.out i' (by omega)
            · by_cases e : i' = i
              · subst e; exact hne.out i'' (by omega)
              · exact hinj.out i' i'' h1 (by omega)
            · rw [List.range_succ, List.map_append]
              show OwnL w6 w.heap.size _ (_ ++ [wtsOf f E i])
              rw [hwt.out]; exact ho
          case measure => simp [intOf]; omega
    · have hik : i = k := by omega
      subst hik
      have hints : IntsAt wr _ i (wtsOf f E) := hown'.out.intsF (by omega) (fun j hj => by
        have h1 := hrng.out j hj
        exact (hr.out (f j).toNat (by omega)).2.2)
      have hints' := Lib.hid hints
      obtain ⟨A3, c3, hv3, _, _, hcl3⟩ := hints
      subst hv3
      have hcl3' := Lib.hid hcl3
      clear hcl3
      go_wp2_with fail
      refine (RSum_any _ i (wtsOf f E) _ _ hints'.out (by omega) (by omega)).mono ?_
      rintro e w2 ⟨rfl, rfl⟩
      cases hst : sumTo (wtsOf f E) 4611686018427387904 i with
      | none =>
        have hno : Hid (¬ ClosedP i m f E) := fun h => h.sum hst
        rw [show sumR (wtsOf f E) 4611686018427387904 i = .tuple #[.int .i64 0, .bool false] from by unfold sumR; rw [hst]]
        clear hst
        go_wp2
        go_ret2
        exact ⟨_, rfl, closed_no hno.out, hb⟩
      | some t =>
        have hsm : Hid (sumTo (wtsOf f E) 4611686018427387904 i ≠ none) := by unfold Hid; rw [hst]; simp
        rw [show sumR (wtsOf f E) 4611686018427387904 i = .tuple #[.int .i64 t, .bool true] from by unfold sumR; rw [hst]]
        clear hst
        have hmp : 0 < m := by have := hrng.out 0 hkp; omega
        obtain ⟨b, o, rfl, hbl, hcs⟩ := hcl'.out hmp
        obtain ⟨b2, o2, rfl, hbl2, hcs2⟩ := hcl2'.out hkp
        obtain ⟨b3, o3, rfl, hbl3, hcs3⟩ := hcl3'.out hkp
        have hcs' := Lib.hid hcs
        have hcs2' := Lib.hid hcs2
        have hcs3' := Lib.hid hcs3
        clear hcs hcs2 hcs3
        go_wp2
        go_loopw [7, 13] (fun s x wx => ∃ j : Nat, j ≤ i ∧ x = .int .i64 j ∧ s = .int .i64 (sumN (wtsOf f E) j) ∧ Hid (∀ l, l < j → (E (f l).toNat).dst = (E (f ((l + 1) % i)).toNat).src) ∧ ∃ d, wx = wr.drewN d) (fun _ x _ => i - (intOf x).toNat)
        case atStart => exact ⟨0, Nat.zero_le _, rfl, rfl, fun l h => by omega, 0, rfl⟩
        case round =>
          obtain ⟨j, hj, rfl, rfl, hlk, d, rfl⟩ := hrel
          obtain ⟨s0, s1⟩ := sumN_bd hsm.out j hj
          by_cases hlj : j < i
          · obtain ⟨s2, s3⟩ := sumN_bd hsm.out (j + 1) (by omega)
            have hsj : sumN (wtsOf f E) (j + 1) = sumN (wtsOf f E) j + wtsOf f E j := rfl
            rw [hsj] at s2 s3
            have hsj' := Lib.hid hsj
            obtain ⟨nx, hnx⟩ : ∃ nx, nx = (j + 1) % i := ⟨_, rfl⟩
            have hnxi : nx < i := by rw [hnx]; exact Nat.mod_lt _ hkp
            obtain ⟨x0, x1⟩ := hrng.out j hlj
            obtain ⟨y0, y1⟩ := hrng.out nx hnxi
            obtain ⟨a, ha⟩ := Int.eq_ofNat_of_zero_le x0
            obtain ⟨b', hb'⟩ := Int.eq_ofNat_of_zero_le y0
            have p0 := (hb.cell (p := ⟨b2, o2 + j, none⟩) hbl2).trans (hcs2'.out j hlj)
            have p1 := (hb.cell (p := ⟨b2, o2 + nx, none⟩) hbl2).trans (hcs2'.out nx hnxi)
            have p2 := (hb.cell (p := ⟨b, o + a * 3 + 1, none⟩) hbl).trans (hcs'.out a (by omega)).2.1
            have p3 := (hb.cell (p := ⟨b, o + b' * 3, none⟩) hbl).trans (hcs'.out b' (by omega)).1
            have p4 := hcs3'.out j hlj
            have hl1 : Hid ((E (f j).toNat).dst = (E a).dst) := by rw [ha]; rfl
            have hl2 : Hid ((E (f nx).toNat).src = (E b').src) := by rw [hb']; rfl
            have ham : a < m := by omega
            have hbm : b' < m := by omega
            rw [ha] at p0
            rw [hb'] at p1
            have hnx' := Lib.hid hnx
            have hw1 : IntKind.i64.wrap ((j : Int) + 1) = (j : Int) + 1 := IntWalk.i64_in _ (by omega)
            have ht1 : ((j : Int) + 1).tmod (i : Int) = (nx : Int) := by
              rw [hnx, Int.tmod_eq_emod_of_nonneg (by omega)]; simp
            have ht2 : ((j : Int) + 1) % (i : Int) = (nx : Int) := by
              rw [hnx]; simp
            clear hsj x0 x1 y0 y1 ha hb' hnx
            generalize hdx : (E a).dst = dx at *
            generalize hsx : (E b').src = sx at *
            generalize hwx : wtsOf f E j = wx at *
            generalize hSx : sumN (wtsOf f E) j = S at *
            have hdx' := Lib.hid hdx
            have hsx' := Lib.hid hsx
            have hwx' := Lib.hid hwx
            have hSx' := Lib.hid hSx
            clear hdx hsx hwx hSx
            by_cases heq : dx = sx
            · have hde : (dx != sx) = false := by simp [heq]
              have heq' := Lib.hid heq
              clear heq
              go_wp2
              go_quiet (fail)
              go_wp2
              go_roundw
              case rel =>
                refine ⟨j + 1, by omega, by go_num, by rw [hsj'.out], fun l hl => ?_, _, rfl⟩
                by_cases e : l = j
                · subst e; rw [hl1.out, ← hnx'.out, hl2.out]; exact heq'.out
                · exact hlk.out l (by omega)
              case measure => simp [intOf]; omega
            · have hde : (dx != sx) = true := by simpa using heq
              have hno : Hid (¬ ClosedP i m f E) := fun h => heq (by rw [← hl1.out, ← hl2.out, hnx'.out]; exact h.link j hlj)
              clear heq
              go_wp2
              go_quiet (fail)
              go_wp2
              go_ret2
              exact ⟨_, rfl, closed_no hno.out, below_drewN (below_drewN hb _) _⟩
          · have hji : Hid (j = i) := by unfold Hid; omega
            go_wp2
            go_ret2
            rw [hji.out]
            exact ⟨_, rfl, closed_yes ⟨hkp, hrng.out, hinj.out, hsm.out, fun l hl => hlk.out l (by rw [hji.out]; exact hl)⟩, below_drewN hb _⟩
end Go.Proofs.Ytoifcpdkophobaa
