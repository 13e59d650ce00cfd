/- graph.Closed. -/
import Derived.Test.YtoifcpdkophobaaClosedR
import Derived.Test.YtoifcpdkophobaaGraphK
import Derived.Test.YtoifcpdkophobaaSeen
namespace Go.Proofs.Ytoifcpdkophobaa
open Go.RowKit

def seenB (f : Nat → Int) : Nat → Int → Bool
  | 0, _ => false
  | j + 1, y => decide (y = f j) || seenB f j y
theorem seenB_iff (f : Nat → Int) (j : Nat) (y : Int) : seenB f j y = true ↔ ∃ i, i < j ∧ f i = y := by
  induction j with
  | zero => simp [seenB]
  | succ j ih =>
    rw [seenB, Bool.or_eq_true, decide_eq_true_eq, ih]
    constructor
    · rintro (h | ⟨i, h1, h2⟩)
      · exact ⟨j, by omega, h.symm⟩
      · exact ⟨i, by omega, h2⟩
    · rintro ⟨i, h1, h2⟩
      by_cases e : i = j
      · subst e; exact .inl h2.symm
      · exact .inr ⟨i, by omega, h2⟩
theorem seenB_not {f : Nat → Int} {j : Nat} (h : seenB f j (f j) = false) : ∀ i, i < j → f i ≠ f j := by
  intro i hi he
  rw [(seenB_iff f j _).2 ⟨i, hi, he⟩] at h; cases h
theorem ed_lit1 (w : World) (a b c : Int) (t : TypeId) (ha : R64 a) (hb : R64 b) (hc : R64 c) : EdsAt (w.alloc (.cells #[.int .i64 a, .int .i64 b, .int .i64 c] t)) (.slice (some ⟨w.heap.size, 0, none⟩) 1 1) 1 (fun _ => ⟨a, b, c⟩) := by
  refine ⟨_, _, rfl, by omega, fun _ _ => ⟨ha, hb, hc⟩, fun _ => ⟨_, 0, rfl, by simp, fun i hi => ?_⟩⟩
  obtain rfl : i = 0 := by omega
  refine ⟨?_, ?_, ?_⟩ <;> simp
theorem OwnE.kept {w w' : World} {base n b : Nat} {v : Value} {E : Nat → Ed} (h : OwnE w base v n E) (hg : w.grownBy w' (some b)) (hb : b < base) : OwnE w' base v n E := by
  refine World.ownsRow.kept (row := some b) h hg ?_
  cases hv : v.ownBlock with
  | none => exact .inl rfl
  | some g =>
    refine .inr fun e => ?_
    have := (OwnG.lt h g hv).1
    injection e with e
    omega
theorem OwnE.snoc {w : World} {base n : Nat} {v : Value} {f : Nat → Int} {E : Nat → Ed} {e : Ed} (h : OwnE w base v (n + 1) (cat n (fun i => E (f i).toNat) fun _ => e)) (he : E (f n).toNat = e) : OwnE w base v (n + 1) (fun i => E (f i).toNat) :=
  OwnG.congr h fun i hi => by
    unfold cat
    split
    · rfl
    · have : i = n := by omega
      subst this; show edC e = edC (E (f i).toNat); rw [he]
def prevI (k j : Nat) : Nat := if j = 0 then k - 1 else j - 1
theorem link_prev {k : Nat} {f : Nat → Int} {E : Nat → Ed} (hk : 0 < k) : (∀ l, l < k → (E (f (prevI k l)).toNat).dst = (E (f l).toNat).src) ↔ ∀ l, l < k → (E (f l).toNat).dst = (E (f ((l + 1) % k)).toNat).src := by
  unfold prevI
  constructor
  · intro h l hl
    by_cases e : l + 1 = k
    · have := h 0 hk
      rw [if_pos rfl] at this
      rw [e, Nat.mod_self, show l = k - 1 by omega]; exact this
    · have := h (l + 1) (by omega)
      rw [if_neg (by omega), Nat.add_sub_cancel] at this
      rw [Nat.mod_eq_of_lt (by omega)]; exact this
  · intro h l hl
    by_cases e : l = 0
    · have := h (k - 1) (by omega)
      rw [show k - 1 + 1 = k by omega, Nat.mod_self] at this
      rw [if_pos e, e]; exact this
    · have := h (l - 1) (by omega)
      rw [show l - 1 + 1 = l by omega, Nat.mod_eq_of_lt hl] at this
      rw [if_neg e]; exact this
def LastAt (w : World) (L : Nat) (y : Int) : Prop :=
  (∃ x z, w.cell? ⟨L, 0, none⟩ = some (.int .i64 x) ∧ w.cell? ⟨L, 1, none⟩ = some (.int .i64 y) ∧ w.cell? ⟨L, 2, none⟩ = some (.int .i64 z)) ∧ (∀ o, w.frozen? ⟨L, o, none⟩ = false)
theorem LastAt.set {w : World} {L : Nat} {y : Int} (h : LastAt w L y) (hL : L < w.heap.size) (x' y' z' : Int) (o : Obj) {y'' : Int} (e : y' = y'') : LastAt ((((w.setCell ⟨L, 0, none⟩ (.int .i64 x')).setCell ⟨L, 1, none⟩ (.int .i64 y')).setCell ⟨L, 2, none⟩ (.int .i64 z')).alloc o) L y'' := by
  subst e
  obtain ⟨⟨lx, lz, l0, l1, l2⟩, lf⟩ := h
  have a1 : (w.setCell ⟨L, 0, none⟩ (.int .i64 x')).cell? ⟨L, 1, none⟩ = _ := (World.cell?_setCell_other _ _ _ _ (by simp)).trans l1
  have a2 : (w.setCell ⟨L, 0, none⟩ (.int .i64 x')).cell? ⟨L, 2, none⟩ = _ := (World.cell?_setCell_other _ _ _ _ (by simp)).trans l2
  have b0 : ((w.setCell ⟨L, 0, none⟩ (.int .i64 x')).setCell ⟨L, 1, none⟩ (.int .i64 y')).cell? ⟨L, 0, none⟩ = _ := (World.cell?_setCell_other _ _ _ _ (by simp)).trans (World.cell?_setCell_same _ _ _ l0)
  have b1 := World.cell?_setCell_same _ _ (.int .i64 y') a1
  have b2 : ((w.setCell ⟨L, 0, none⟩ (.int .i64 x')).setCell ⟨L, 1, none⟩ (.int .i64 y')).cell? ⟨L, 2, none⟩ = _ := (World.cell?_setCell_other _ _ _ _ (by simp)).trans a2
  have hb : Below w.heap.size (((w.setCell ⟨L, 0, none⟩ (.int .i64 x')).setCell ⟨L, 1, none⟩ (.int .i64 y')).setCell ⟨L, 2, none⟩ (.int .i64 z')) ((((w.setCell ⟨L, 0, none⟩ (.int .i64 x')).setCell ⟨L, 1, none⟩ (.int .i64 y')).setCell ⟨L, 2, none⟩ (.int .i64 z')).alloc o) := (Below.refl _ _).alloc (by simp) o
  refine ⟨⟨x', z', ?_, ?_, ?_⟩, fun o' => ?_⟩
  · exact (hb.cell (p := ⟨L, 0, none⟩) hL).trans ((World.cell?_setCell_other _ _ _ _ (by simp)).trans b0)
  · exact (hb.cell (p := ⟨L, 1, none⟩) hL).trans ((World.cell?_setCell_other _ _ _ _ (by simp)).trans b1)
  · exact (hb.cell (p := ⟨L, 2, none⟩) hL).trans (World.cell?_setCell_same _ _ _ b2)
  · rw [hb.frozen (p := ⟨L, o', none⟩) hL, World.frozen?_setCell, World.frozen?_setCell, World.frozen?_setCell]
    exact lf o'
theorem below_set3 {w0 w : World} {L : Nat} (h : Below L w0 w) (hL : L < w.heap.size) (u v z : Value) (o : Obj) : Below L w0 ((((w.setCell ⟨L, 0, none⟩ u).setCell ⟨L, 1, none⟩ v).setCell ⟨L, 2, none⟩ z).alloc o) := by
  have h1 := ((h.setCell (p := ⟨L, 0, none⟩) (Nat.le_refl _) u).setCell (p := ⟨L, 1, none⟩) (Nat.le_refl _) v).setCell (p := ⟨L, 2, none⟩) (Nat.le_refl _) z
  exact h1.alloc (by simp; omega) o

set_option maxRecDepth 100000 in
set_option maxHeartbeats 1600000 in
theorem Closed_any (v u : Value) (m k : Nat) (E : Nat → Ed) (f : Nat → Int) (w : World) (hv : EdsAt w v m E) (hu : IntsAt w u k f) (hk : k ≤ 100000) :
    Calls Try.prog 19 #[v, u] w fun e w' => ∃ r, e = .returned r ∧ ClosedPost k m f E r ∧ Below w.heap.size w w' := by
  have hmm := @run_makeMap Try.prog
  have hr := Lib.hid hv.ranges
  obtain ⟨A, c, rfl, hm, _, hcl⟩ := hv
  obtain ⟨A2, c2, rfl, _, hr2, hcl2⟩ := hu
  have hcl' := Lib.hid hcl
  have hcl2' := Lib.hid hcl2
  have hr2' := Lib.hid hr2
  clear hcl hcl2 hr2
  go_enter Try.func19, Try.ntmps19
  go_wp2
  clear hmm
  go_loopw [4, 7, 16] (fun v4 v7 i wr => ∃ j : Nat, j ≤ k ∧ v4 = .int .i64 0 ∧ i = .int .i64 j ∧ Hid (∀ i, i < j → 0 ≤ f i ∧ f i < m) ∧ Hid (∀ i i', i' < i → i < j → f i' ≠ f i) ∧ Hid (SeenAt wr w.heap.size j (seenB f j)) ∧ Hid (OwnE wr (w.heap.size + 1) v7 j (fun i => E (f i).toNat)) ∧ Below w.heap.size w wr) (fun _ _ i _ => k - (intOf i).toNat)
  case atStart => exact ⟨0, Nat.zero_le _, rfl, rfl, fun i hi => by omega, fun i i' h1 h2 => by omega, SeenAt.made w, OwnG.nil _ _ _ _ _, (Below.refl _ _).alloc (Nat.le_refl _) _⟩
  case round =>
    obtain ⟨i, hi, rfl, rfl, hrng, hinj, hsn, hown, hb⟩ := hrel
    have hz := hb.size
    have hz1 := hsn.out.lt
    by_cases hlt : i < k
    · obtain ⟨b2, o2, rfl, hbl2, hcs2⟩ := hcl2'.out (by omega)
      have p0 := (hb.cell (p := ⟨b2, o2 + i, none⟩) hbl2).trans (hcs2 i hlt)
      clear hcs2
      obtain ⟨r0, r1⟩ := hr2'.out i hlt
      by_cases t0 : f i < 0
      · have hno : Hid (¬ ClosedP k m f E) := fun h => by have := h.rng i hlt; omega
        have d0 : decide (f i < 0) = true := by simpa using t0
        clear t0
        go_wp2
        go_ret2
        exact ⟨_, rfl, closed_no hno.out, hb⟩
      by_cases t1 : (m : Int) ≤ f i
      · have hno : Hid (¬ ClosedP k m f E) := fun h => by have := h.rng i hlt; omega
        have d0 : decide (f i < 0) = false := by simpa using t0
        have d1 : decide ((m : Int) ≤ f i) = true := by simpa using t1
        clear t0 t1
        go_wp2
        go_ret2
        exact ⟨_, rfl, closed_no hno.out, hb⟩
      have d0 : decide (f i < 0) = false := by simpa using t0
      have d1 : decide ((m : Int) ≤ f i) = false := by simpa using t1
      have hlook := hsn.out.look ⟨r0, r1⟩
      cases hsb : seenB f i (f i) with
      | true =>
        have hno : Hid (¬ ClosedP k m f E) := fun h => by
          obtain ⟨i', h1, h2⟩ := (seenB_iff f i _).1 hsb
          exact h.inj i i' h1 hlt h2
        rw [hsb] at hlook
        clear t0 t1 hsb
        go_wp2
        go_ret2
        exact ⟨_, rfl, closed_no hno.out, hb⟩
      | false =>
        have hni := Lib.hid (seenB_not hsb)
        rw [hsb] at hlook
        have t0' : 0 ≤ f i := by omega
        have t1' : f i < m := by omega
        obtain ⟨a, ha⟩ := Int.eq_ofNat_of_zero_le t0'
        have ham : a < m := by omega
        obtain ⟨b, o, rfl, hbl, hcs⟩ := hcl'.out (by omega)
        obtain ⟨q0, q1, q2⟩ := hcs a ham
        obtain ⟨g0, g1, g2⟩ := hr.out a ham
        have g0' := Lib.hid g0
        have g1' := Lib.hid g1
        have g2' := Lib.hid g2
        have hEa : Hid (E (f i).toNat = ⟨(E a).src, (E a).dst, (E a).wt⟩) := by unfold Hid; rw [ha]; rfl
        rw [ha] at p0 d0 d1 hlook
        have ha' := Lib.hid ha
        have hR := Lib.hid (show R64 (f i) from ⟨r0, r1⟩)
        have hst : Hid (∀ y, (decide (y = (a : Int)) || seenB f i y) = seenB f (i + 1) y) := fun y => by rw [seenB, ha]
        clear hcs hsb t0 t1 t0' t1' r0 r1 ha g0 g1 g2
        go_wp2_with (at_mapUpdate; refine wpList_seen rfl _ _ _ rfl w.heap.size i _ rfl hsn.out (by unfold maxLen; omega) a rfl rfl ?c1 ?_)
        case c1 => have := hR.out; rw [ha'.out] at this; exact this
        intro w1 hsn1 hg1
        have hb1 := hb.grown hg1 hz (fun k h => by injection h with h; omega)
        have hz2 := hb1.size
        have hz3 := hsn1.lt
        have c0 := (hb1.cell (p := ⟨b, o + a * 3, none⟩) hbl).trans q0
        have c1 := (hb1.cell (p := ⟨b, o + a * 3 + 1, none⟩) hbl).trans q1
        have c2 := (hb1.cell (p := ⟨b, o + a * 3 + 2, none⟩) hbl).trans q2
        have hown1 := Lib.hid (hown.out.kept hg1 (Nat.lt_succ_self _))
        clear hlook p0 d0 d1 q0 q1 q2 hg1 hsn hown
        generalize hx : (E a).src = x at *
        generalize hy : (E a).dst = y at *
        generalize hzz : (E a).wt = z at *
        clear hx hy hzz
        go_wp2_with (at_builtin; refine wpList_appE rfl (.tmp 35) (.tmp 40) rfl (w.heap.size + 1) _ i (fun i => E (f i).toNat) rfl ?o1 _ 1 (fun _ => ⟨x, y, z⟩) rfl ?x1 ?n1 ?b1 ?_)
        case o1 => exact OwnG.alloc hown1.out _
        case x1 => exact ed_lit1 w1 x y z _ g0'.out g1'.out g2'.out
        case n1 => omega
        case b1 => simp; omega
        intro v2 w2 ow2 hb2
        have hbz : Below w.heap.size w w2 := (hb1.alloc hz2 _).trans (hb2.mono (Nat.le_succ _))
        have hsn2 := Lib.hid (((hsn1.alloc _).below hb2 (Nat.lt_succ_self _)).congr hst.out)
        have ow2' := Lib.hid (ow2.snoc hEa.out)
        clear hsn1 hb2 ow2
        go_wp2
        go_roundw
        case rel =>
          refine ⟨i + 1, by omega, rfl, by go_num, fun i' h => ?_, fun i' i'' h1 h2 => ?_, hsn2.out, ow2'.out, hbz⟩
          · by_cases e : i' = i
            · subst e; rw [ha'.out]; omega
            · exact hrng.out i' (by omega)
          · by_cases e : i' = i
            · subst e; exact hni.out i'' (by omega)
            · exact hinj.out i' i'' h1 (by omega)
        case measure => simp [intOf]; omega
    · have hik : i = k := by omega
      subst hik
      have heds : EdsAt wr _ i (fun j => E (f j).toNat) := hown.out.at_ (by omega) (fun j hj => hr.out (f j).toNat (by have := hrng.out j hj; omega))
      have heds' := Lib.hid heds
      obtain ⟨A3, c3, hv3, _, _, hcl3⟩ := heds
      subst hv3
      have hcl3' := Lib.hid hcl3
      clear hcl3 hown hsn
      by_cases hi0 : i = 0
      · subst hi0
        go_wp2
        go_ret2
        exact ⟨_, rfl, closed_no (fun h => by have := h.pos; omega), hb⟩
      have hkp : 0 < i := by omega
      have hd0 : ((i : Int) == 0) = false := by simp; omega
      clear hi0
      go_wp2_with fail
      refine (weights_any _ i _ _ heds'.out (by omega)).mono ?_
      rintro e w3 ⟨u3, rfl, hu3, hb3⟩
      go_wp2_with fail
      refine (Sum_any _ i _ _ _ hu3 (by omega) (by omega)).mono ?_
      rintro e w4 ⟨rfl, rfl⟩
      have hbz : Below w.heap.size w w3 := hb.trans (hb3.mono hz)
      rw [show (fun j => (E (f j).toNat).wt) = wtsOf f E from rfl]
      cases hst : sumTo (wtsOf f E) 4611686018427387904 i with
      | none =>
        have hno : Hid (¬ ClosedP i m f E) := fun h => h.sum hst
        rw [show sumR (wtsOf f E) 4611686018427387904 i = .tuple #[.int .i64 0, .bool false] from by unfold sumR; rw [hst]]
        clear hst
        go_wp2
        go_ret2
        exact ⟨_, rfl, closed_no hno.out, hbz⟩
      | some t =>
        have hsm : Hid (sumTo (wtsOf f E) 4611686018427387904 i ≠ none) := by unfold Hid; rw [hst]; simp
        rw [show sumR (wtsOf f E) 4611686018427387904 i = .tuple #[.int .i64 t, .bool true] from by unfold sumR; rw [hst]]
        clear hst
        obtain ⟨b, o, rfl, hbl, hcs⟩ := hcl3'.out hkp
        have hcs' := Lib.hid hcs
        have ep : IntKind.i64.wrap ((i : Int) - 1) = ((i - 1 : Nat) : Int) := by rw [IntKind.wrap_i64]; omega
        have eq0 : (i : Int) - 1 = ((i - 1 : Nat) : Int) := by omega
        have hp1 : i - 1 < i := by omega
        have hz4 := hb3.size
        have hbl3 : b < w3.heap.size := by omega
        obtain ⟨q0, q1, q2⟩ := hcs (i - 1) hp1
        have c0 := (hb3.cell (p := ⟨b, o + (i - 1) * 3, none⟩) hbl).trans q0
        have c1 := (hb3.cell (p := ⟨b, o + (i - 1) * 3 + 1, none⟩) hbl).trans q1
        have c2 := (hb3.cell (p := ⟨b, o + (i - 1) * 3 + 2, none⟩) hbl).trans q2
        clear hcs q0 q1 q2
        generalize hp : i - 1 = p at *
        have hpv : Hid (prevI i 0 = p) := by unfold Hid prevI; rw [if_pos rfl]; exact hp
        go_wp2
        go_loopw [4, 62] (fun s x wx => ∃ j : Nat, j ≤ i ∧ x = .int .i64 j ∧ s = .int .i64 (sumN (wtsOf f E) j) ∧ Hid (∀ l, l < j → (E (f (prevI i l)).toNat).dst = (E (f l).toNat).src) ∧ Hid (LastAt wx w3.heap.size (E (f (prevI i j)).toNat).dst) ∧ w3.heap.size < wx.heap.size ∧ Below w3.heap.size w3 wx) (fun _ x _ => i - (intOf x).toNat)
        case atStart => exact ⟨0, Nat.zero_le _, rfl, rfl, fun l h => by omega, ⟨⟨_, _, by simp; rfl, by simp [hpv.out], by simp; rfl⟩, fun _ => by simp⟩, by simp, (Below.refl _ _).alloc (Nat.le_refl _) _⟩
        case round =>
          obtain ⟨j, hj, rfl, rfl, hlk, hlast, hzx, hbx⟩ := hrel
          by_cases hlj : j < i
          · obtain ⟨⟨lx, lz, l0, l1, l2⟩, lf⟩ := hlast.out
            obtain ⟨q0, q1, q2⟩ := hcs'.out j hlj
            have hb5 := hb3.trans (hbx.mono hz4)
            have d0 := (hb5.cell (p := ⟨b, o + j * 3, none⟩) hbl).trans q0
            have d1 := (hb5.cell (p := ⟨b, o + j * 3 + 1, none⟩) hbl).trans q1
            have d2 := (hb5.cell (p := ⟨b, o + j * 3 + 2, none⟩) hbl).trans q2
            have f0 := lf 0
            have f1 := lf 1
            have f2 := lf 2
            obtain ⟨s0, s1⟩ := sumN_bd hsm.out j hj
            obtain ⟨s2, s3⟩ := sumN_bd hsm.out (j + 1) (by omega)
            have hsj : sumN (wtsOf f E) (j + 1) = sumN (wtsOf f E) j + (E (f j).toNat).wt := rfl
            rw [hsj] at s2 s3
            have hsj' := Lib.hid hsj
            have hpj : Hid (prevI i (j + 1) = j) := by unfold Hid prevI; rw [if_neg (by omega)]; rfl
            generalize hxx : (E (f j).toNat).src = x at *
            generalize hyy : (E (f j).toNat).dst = y at *
            generalize hzz : (E (f j).toNat).wt = z at *
            generalize hll : (E (f (prevI i j)).toNat).dst = ly at *
            generalize hSS : sumN (wtsOf f E) j = S at *
            have hxx' := Lib.hid hxx
            have hyy' := Lib.hid hyy
            have hll' := Lib.hid hll
            clear q0 q1 q2 lf c0 c1 c2 hxx hyy hzz hll hSS hsj
            by_cases heq : ly = x
            · have de : (ly != x) = false := by simp [heq]
              have heq' := Lib.hid heq
              clear heq
              go_wp2
              all_goals (
                go_roundw
                case rel =>
                  refine ⟨j + 1, by omega, by go_num, by first | (rw [hsj'.out]; done) | (rw [hsj'.out]; congr 1; omega), fun l hl => ?_, ?_, by simp; omega, below_set3 hbx hzx _ _ _ _⟩
                  · by_cases e : l = j
                    · subst e; rw [hll'.out, hxx'.out]; exact heq'.out
                    · exact hlk.out l (by omega)
                  · rw [hpj.out, hyy'.out]; exact hlast.out.set hzx _ _ _ _ (by first | rfl | omega)
                case measure => simp [intOf]; omega)
            · have de : (ly != x) = true := by simpa using heq
              have hno : Hid (¬ ClosedP i m f E) := fun h => heq (by rw [← hll'.out, ← hxx'.out]; exact (link_prev h.pos).2 h.link j hlj)
              clear heq
              go_wp2
              go_ret2
              exact ⟨_, rfl, closed_no hno.out, hbz.trans ((hbx.mono hbz.size).alloc (by omega) _)⟩
          · have hji : Hid (j = i) := by unfold Hid; omega
            clear c0 c1 c2
            go_wp2
            go_ret2
            rw [hji.out]
            exact ⟨_, rfl, closed_yes ⟨hkp, hrng.out, hinj.out, hsm.out, (link_prev hkp).1 fun l hl => hlk.out l (by rw [hji.out]; exact hl)⟩, hbz.trans (hbx.mono hbz.size)⟩
end Go.Proofs.Ytoifcpdkophobaa
