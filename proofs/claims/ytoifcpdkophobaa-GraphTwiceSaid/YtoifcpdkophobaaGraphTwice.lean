/- The law GraphTwice: the plain law, the walk. -/
import Derived.Test.YtoifcpdkophobaaGraphMore
namespace Go.Proofs.Ytoifcpdkophobaa
open Go.RowKit

def dbl (E : Nat → Ed) : Nat → Ed := fun i => ⟨(E i).src, (E i).dst, 2 * (E i).wt⟩
theorem sumN_small {f : Nat → Int} {c : Int} : ∀ m, (∀ i, i < m → f i ≤ c) → sumN f m ≤ m * c := by
  intro m
  induction m with
  | zero => intro _; show (0 : Int) ≤ _; simp
  | succ m ih =>
    intro h
    have h1 := ih fun i hi => h i (by omega)
    have h2 := h m (by omega)
    show sumN f m + f m ≤ ((m + 1 : Nat) : Int) * c
    rw [Int.natCast_add, Int.add_mul]
    simp; omega
theorem small_sum {f : Nat → Int} {m : Nat} (hm : m ≤ 200) (h : ∀ i, i < m → -2199023255552 ≤ f i ∧ f i ≤ 2199023255552) : sumTo f 4611686018427387904 m ≠ none := by
  refine (sumTo_iff (by omega) m).2 ⟨fun i hi => by have := h i hi; omega, ?_⟩
  have h1 : sumN (fun i => absI (f i) + 1) m ≤ m * 2199023255553 := sumN_small m fun i hi => by
    have := h i hi; show absI (f i) + 1 ≤ _; unfold absI; split <;> omega
  have h2 : (m : Int) * 2199023255553 ≤ 200 * 2199023255553 := Int.mul_le_mul_of_nonneg_right (by omega) (by omega)
  omega
theorem dbl_eds {n : Int} {m : Nat} {E : Nat → Ed} : edsB n (dbl E) m = true ↔ edsB n E m = true := by rw [edsB_iff, edsB_iff]; rfl
theorem dbl_feas {m : Nat} {E : Nat → Ed} {x : Nat → Int} (h : Feas E m x) : Feas (dbl E) m (fun v => 2 * x v) := by
  intro i hi
  have := h i hi
  show 2 * x (E i).dst.toNat ≤ 2 * x (E i).src.toNat + 2 * (E i).wt
  omega
theorem dbl_half {m : Nat} {E : Nat → Ed} {x : Nat → Int} (h : Feas (dbl E) m x) : Feas E m (fun v => (x v + 1) / 2) := by
  intro i hi
  have h1 : x (E i).dst.toNat ≤ x (E i).src.toNat + 2 * (E i).wt := h i hi
  show (x (E i).dst.toNat + 1) / 2 ≤ (x (E i).src.toNat + 1) / 2 + (E i).wt
  omega
theorem twice_law {n : Int} {m : Nat} {E : Nat → Ed} (hn0 : 0 ≤ n) (hn : n ≤ 50) (hm : m ≤ 200) (h : ∀ i, i < m → -1099511627776 ≤ (E i).wt ∧ (E i).wt ≤ 1099511627776) :
    checkR n m (dbl E) = checkR n m E ∧ badR n m (dbl E) = badR n m E ∧ lenR n m (dbl E) = lenR n m E ∧ (checkR n m E = 0 → checkR (n + 1) m E = 0 ∧ badR (n + 1) m E = badR n m E) ∧
    (checkR n m E = 0 → badR n m E = false → lenR n m E = n.toNat ∧ lenR (n + 1) m E = n.toNat + 1 ∧ (∀ i, potR n m (dbl E) i = 2 * potR n m E i) ∧ (∀ i, potR (n + 1) m E i = potR n m E i) ∧ potR (n + 1) m E n.toNat = 0) := by
  have s1 : sumTo (fun i => (E i).wt) 4611686018427387904 m ≠ none := small_sum hm fun i hi => by have := h i hi; omega
  have s2 : sumTo (fun i => (dbl E i).wt) 4611686018427387904 m ≠ none := small_sum hm fun i hi => by have := h i hi; show -2199023255552 ≤ 2 * (E i).wt ∧ 2 * (E i).wt ≤ 2199023255552; omega
  have hc : checkR n m (dbl E) = checkR n m E := checkR_congr dbl_eds ⟨fun _ => s1, fun _ => s2⟩
  have hbad : checkR n m E = 0 → badR n m (dbl E) = badR n m E := fun hz => by
    rw [Bool.eq_iff_iff, bad_iff hz, bad_iff (hc.trans hz)]
    constructor
    · rintro hno ⟨x, hx⟩; exact hno ⟨_, dbl_feas hx⟩
    · rintro hno ⟨x, hx⟩; exact hno ⟨_, dbl_half hx⟩
  have hbad' : badR n m (dbl E) = badR n m E := by
    by_cases hz : checkR n m E = 0
    · exact hbad hz
    · unfold badR; simp [hc, hz]
  have hck : checkR n m E = 0 → checkR (n + 1) m E = 0 := fun hz => by
    obtain ⟨a, b, c, d⟩ := check_un hz
    refine check_mk (by omega) (by omega) ((edsB_iff _ _ _).2 fun i hi => ?_) d
    have := (edsB_iff _ _ _).1 c i hi
    omega
  have hb1 : checkR n m E = 0 → badR (n + 1) m E = badR n m E := fun hz => by
    rw [Bool.eq_iff_iff, bad_iff hz, bad_iff (hck hz)]
  refine ⟨hc, hbad', ?_, fun hz => ⟨hck hz, hb1 hz⟩, fun hz hb => ?_⟩
  · by_cases hz : checkR n m E = 0
    · cases hb : badR n m E with
      | true => rw [bad_len hb, bad_len (hbad'.trans hb)]
      | false => rw [(good_facts hz hb).1, (good_facts (hc.trans hz) (hbad'.trans hb)).1]
    · unfold lenR; simp [hc, hz]
  · obtain ⟨l1, f1⟩ := good_facts hz hb
    obtain ⟨_, f2⟩ := good_facts (hc.trans hz) (hbad'.trans hb)
    obtain ⟨l3, f3⟩ := good_facts (hck hz) ((hb1 hz).trans hb)
    refine ⟨l1, by rw [l3]; omega, fun i => ?_, fun i => ?_, ?_⟩
    · have a1 := pot_ge (n := n) (dbl_feas f1) (fun v => by have := pot_le n m E v; omega) i
      have a2 := pot_ge (n := n) (dbl_half f2) (fun v => by have := pot_le n m (dbl E) v; omega) i
      omega
    · have a1 := pot_ge (n := n) f3 (pot_le (n + 1) m E) i
      have a2 := pot_ge (n := n + 1) f1 (pot_le n m E) i
      omega
    · obtain ⟨_, _, c, _⟩ := check_un hz
      have hx : Feas E m (fun v => if v = n.toNat then 0 else potR n m E v) := by
        intro i hi
        have h1 := (edsB_iff _ _ _).1 c i hi
        show (if (E i).dst.toNat = n.toNat then 0 else potR n m E (E i).dst.toNat) ≤ (if (E i).src.toNat = n.toNat then 0 else potR n m E (E i).src.toNat) + (E i).wt
        rw [if_neg (by omega), if_neg (by omega)]
        exact f1 i hi
      have a1 := pot_ge (n := n + 1) hx (fun v => by have := pot_le n m E v; split <;> omega) n.toNat
      have a2 := pot_le (n + 1) m E n.toNat
      rw [if_pos rfl] at a1
      omega

/-- Block g holds edges, and may be written. -/
def BlkE (w : World) (g m : Nat) (E : Nat → Ed) : Prop :=
  g < w.heap.size ∧ (∀ i, w.frozen? ⟨g, i, none⟩ = false) ∧ ∀ i, i < m → w.cell? ⟨g, i * 3, none⟩ = some (.int .i64 (E i).src) ∧ w.cell? ⟨g, i * 3 + 1, none⟩ = some (.int .i64 (E i).dst) ∧ w.cell? ⟨g, i * 3 + 2, none⟩ = some (.int .i64 (E i).wt)
theorem BlkE.set {w : World} {g m k : Nat} {E F : Nat → Ed} {y : Int} (h : BlkE w g m E) (hk : k < m) (hF : ∀ i, i < m → F i = if i = k then ⟨(E i).src, (E i).dst, y⟩ else E i) : BlkE (w.setCell ⟨g, k * 3 + 2, none⟩ (.int .i64 y)) g m F := by
  obtain ⟨h0, h1, h2⟩ := h
  refine ⟨by simpa using h0, fun i => by rw [World.frozen?_setCell]; exact h1 i, fun i hi => ?_⟩
  obtain ⟨c0, c1, c2⟩ := h2 i hi
  rw [hF i hi]
  by_cases e : i = k
  · subst e
    rw [if_pos rfl]
    refine ⟨?_, ?_, World.cell?_setCell_same _ _ _ c2⟩
    · rw [World.cell?_setCell_other _ _ _ _ (by intro h; injection h; omega)]; exact c0
    · rw [World.cell?_setCell_other _ _ _ _ (by intro h; injection h; omega)]; exact c1
  · rw [if_neg e]
    refine ⟨?_, ?_, ?_⟩
    · rw [World.cell?_setCell_other _ _ _ _ (by intro h; injection h; omega)]; exact c0
    · rw [World.cell?_setCell_other _ _ _ _ (by intro h; injection h; omega)]; exact c1
    · rw [World.cell?_setCell_other _ _ _ _ (by intro h; injection h; omega)]; exact c2
theorem OwnE.blk {w : World} {base m : Nat} {v : Value} {E : Nat → Ed} (h : OwnE w base v m E) : ∃ A c, v = .slice A m c ∧ (0 < m → ∃ g, A = some ⟨g, 0, none⟩ ∧ base ≤ g ∧ BlkE w g m E) := by
  obtain ⟨A, c, rfl, _, hc⟩ := OwnG.at_ h fun _ => rfl
  refine ⟨A, c, rfl, fun h0 => ?_⟩
  obtain ⟨b, cap, hv, hbase, hlt⟩ := World.ownsRow.form h h0
  have hA : A = some ⟨b, 0, none⟩ := by injection hv
  subst hA
  have hcap : c = cap := by injection hv
  subst hcap
  obtain ⟨b', o', e, _, hc⟩ := hc h0
  injection e with e
  injection e with e1 e2
  subst e1; subst e2
  refine ⟨b, rfl, hbase, hlt, fun i => World.ownsRow.frozenAt h i, fun i hi => ⟨?_, ?_, ?_⟩⟩
  · have := hc i hi 0 _ rfl; rwa [Nat.zero_add, Nat.add_zero] at this
  · have := hc i hi 1 _ rfl; rwa [Nat.zero_add] at this
  · have := hc i hi 2 _ rfl; rwa [Nat.zero_add] at this
def half (k : Nat) (E : Nat → Ed) : Nat → Ed := fun i => if i < k then dbl E i else E i

set_option maxRecDepth 100000 in
set_option maxHeartbeats 1600000 in
theorem Twice_any (n : Int) (v : Value) (m : Nat) (E : Nat → Ed) (w : World) (hv : EdsAt w v m E) (hn0 : -9223372036854775808 ≤ n) (hn1 : n ≤ 9223372036854775807) :
    Calls Try.prog 6 #[.int .i64 n, v] w fun e w' => e = .returned (.bool true) ∧ Below w.heap.size w w' := by
  have hv' := Lib.hid hv
  have hrg := Lib.hid hv.ranges
  obtain ⟨A, c, rfl, hm, _⟩ := hv
  by_cases hg : 60 < n ∨ 200 < m
  · have hg' : Hid ((decide (60 < n) || decide (200 < m)) = true) := by unfold Hid; simp; omega
    clear hg
    go_enter Try.func6, Try.ntmps6
    go_wp2_with fail
    refine (Great_any n A m c w hm).mono ?_
    rintro e w1 ⟨rfl, rfl⟩
    rw [hg'.out]
    go_wp2_with fail
    refine (wakes24_any w).mono ?_
    rintro e w1 ⟨rfl, hb⟩
    go_wp2
    go_ret
    exact ⟨rfl, hb⟩
  have hg' : Hid ((decide (60 < n) || decide (200 < m)) = false) := by unfold Hid; simp; omega
  have hm2 : m ≤ 200 := by omega
  by_cases h5 : n < 0
  · go_enter Try.func6, Try.ntmps6
    go_wp2_with fail
    refine (Great_any n A m c w hm).mono ?_
    rintro e w1 ⟨rfl, rfl⟩
    rw [hg'.out]
    go_wp2_with fail
    refine (wakes24_any w).mono ?_
    rintro e w1 ⟨rfl, hb⟩
    go_wp2
    go_ret
    exact ⟨rfl, hb⟩
  by_cases h6 : 50 < n
  · go_enter Try.func6, Try.ntmps6
    go_wp2_with fail
    refine (Great_any n A m c w hm).mono ?_
    rintro e w1 ⟨rfl, rfl⟩
    rw [hg'.out]
    go_wp2_with fail
    refine (wakes24_any w).mono ?_
    rintro e w1 ⟨rfl, hb⟩
    go_wp2
    go_ret
    exact ⟨rfl, hb⟩
  have h5' : 0 ≤ n := by omega
  have h6' : n ≤ 50 := by omega
  clear h5 h6 hg hn0 hn1
  obtain ⟨n, rfl⟩ := Int.eq_ofNat_of_zero_le h5'
  go_enter Try.func6, Try.ntmps6
  go_wp2_with fail
  refine (Great_any n A m c w hm).mono ?_
  rintro e w1 ⟨rfl, rfl⟩
  rw [hg'.out]
  go_wp2_with (at_builtin; refine wpList_appE rfl (.tmp 29) (.tmp 30) rfl w.heap.size _ 0 E0 rfl ?o1 _ m E rfl ?x1 ?n1 ?b1 ?_)
  case o1 => exact OwnE.lit0 w _ (Nat.le_refl _)
  case x1 => exact hv'.out.below ((Below.refl _ _).alloc (Nat.le_refl _) _)
  case n1 => omega
  case b1 => simp
  intro v1 w1 o1 hb1
  have o1 : OwnE w1 w.heap.size v1 m E := OwnE.first (F := E0) (by rw [Nat.zero_add]; exact o1)
  have hb1' : Below w.heap.size w w1 := ((Below.refl _ _).alloc (Nat.le_refl _) _).trans hb1
  obtain ⟨A1, c1, rfl, hblk⟩ := o1.blk
  have hblk' := Lib.hid hblk
  clear hb1 o1 hblk
  go_wp2
  go_loopw [6] (fun i wr => ∃ k : Nat, k ≤ m ∧ i = .int .i64 k ∧ (∀ j, j < k → -1099511627776 ≤ (E j).wt ∧ (E j).wt ≤ 1099511627776) ∧ Hid (0 < m → ∃ g, A1 = some ⟨g, 0, none⟩ ∧ w.heap.size ≤ g ∧ BlkE wr g m (half k E)) ∧ Below w.heap.size w wr) (fun i _ => m - (intOf i).toNat)
  case atStart =>
    refine ⟨0, Nat.zero_le _, rfl, fun j hj => by omega, fun h0 => ?_, hb1'⟩
    obtain ⟨g, e, hg, hb⟩ := hblk'.out h0
    exact ⟨g, e, hg, hb.1, hb.2.1, fun i hi => hb.2.2 i hi⟩
  case round =>
    obtain ⟨k, hk, rfl, hsm, hbk, hb⟩ := hrel
    have hsm' := Lib.hid hsm
    clear hsm
    by_cases hlt : k < m
    · obtain ⟨g, rfl, hgw, hB⟩ := hbk.out (by omega)
      obtain ⟨_, _, q2⟩ := hB.2.2 k hlt
      have e2 : half k E k = E k := by unfold half; rw [if_neg (by omega)]
      rw [e2] at q2
      have fz := hB.2.1 (k * 3 + 2)
      obtain ⟨_, _, r0, r1⟩ := hrg.out k hlt
      have hB' := Lib.hid hB
      clear e2 hB
      by_cases t0 : 1099511627776 < (E k).wt
      · go_wp2_with fail
        refine (wakes24_any wr).mono ?_
        rintro e w2 ⟨rfl, hb2⟩
        go_wp2
        go_ret
        exact ⟨rfl, hb.trans (hb2.mono hb.size)⟩
      by_cases t1 : (E k).wt < -1099511627776
      · go_wp2_with fail
        refine (wakes24_any wr).mono ?_
        rintro e w2 ⟨rfl, hb2⟩
        go_wp2
        go_ret
        exact ⟨rfl, hb.trans (hb2.mono hb.size)⟩
      go_wp2
      go_roundw
      case rel =>
        refine ⟨k + 1, by omega, by go_num, fun j hj => ?_, fun _ => ⟨g, rfl, hgw, ?_⟩, hb.setCell (p := ⟨g, k * 3 + 2, none⟩) hgw _⟩
        · by_cases e : j = k
          · subst e; omega
          · exact hsm'.out j (by omega)
        · refine hB'.out.set hlt fun i hi => ?_
          unfold half dbl
          by_cases e : i = k
          · subst e; simp
          · by_cases e2 : i < k
            · simp [e, e2, show i < k + 1 by omega]
            · simp [e, e2, show ¬ i < k + 1 by omega]
      case measure => simp [intOf]; omega
    · have hkm : k = m := by omega
      have ed2 : EdsAt wr (.slice A1 m c1) m (dbl E) := by
        refine ⟨A1, c1, rfl, hm, fun i hi => ?_, fun h0 => ?_⟩
        · have h1 := hrg.out i hi
          have h2 := hsm'.out i (by omega)
          unfold dbl R64 at *
          refine ⟨h1.1, h1.2.1, ?_, ?_⟩
          · show -9223372036854775808 ≤ 2 * (E i).wt; omega
          · show 2 * (E i).wt ≤ 9223372036854775807; omega
        · obtain ⟨g, e, _, hB⟩ := hbk.out h0
          refine ⟨g, 0, e, hB.1, fun i hi => ?_⟩
          have h3 := hB.2.2 i hi
          unfold half at h3
          rw [if_pos (by omega)] at h3
          rw [Nat.zero_add]; exact h3
      obtain ⟨l1, l2, l3, l4, l5⟩ := twice_law (n := n) (by omega) h6' hm2 (fun i hi => hsm'.out i (by omega))
      have l5' := Lib.hid l5
      have l4' := Lib.hid l4
      have ed2' := Lib.hid ed2
      have l1' := Lib.hid l1
      have l2' := Lib.hid l2
      have l3' := Lib.hid l3
      clear hkm ed2 l5 l4 hbk hb1' l1 l2 l3
      go_wp2_with fail
      refine (Pots_any n _ m E wr (hv'.out.below hb) (by omega) (by omega) (by omega)).mono ?_
      rintro e w7 ⟨p, rfl, hp, hb7⟩
      have ed3 := ed2'.out.below hb7
      have hbw7 := hb.trans (hb7.mono hb.size)
      clear hb7
      go_wp2_with fail
      refine (Pots_any n _ m (dbl E) w7 ed3 (by omega) (by omega) (by omega)).mono ?_
      rintro e w8 ⟨q, rfl, hq, hb8⟩
      rw [l1'.out, l2'.out]
      rw [l3'.out] at hq
      have hbw8 := hbw7.trans (hb8.mono hbw7.size)
      have hp := hp.below hb8
      clear hb8 hbw7 ed3
      go_wp2_with fail
      refine (Pots_any (n + 1) _ m E w8 (hv'.out.below hbw8) (by omega) (by omega) (by omega)).mono ?_
      rintro e w9 ⟨r, rfl, hr, hb9⟩
      have hbw9 := hbw8.trans (hb9.mono hbw8.size)
      have hp := hp.below hb9
      have hq := hq.below hb9
      clear hb9 hbw8
      obtain ⟨A7, c7, rfl, hl7, hr7, hc7⟩ := hp
      obtain ⟨A8, c8, rfl, hl8, hr8, hc8⟩ := hq
      obtain ⟨A9, c9, rfl, hl9, hr9, hc9⟩ := hr
      have hc7' := Lib.hid hc7
      have hc8' := Lib.hid hc8
      have hc9' := Lib.hid hc9
      have hr8' := Lib.hid hr8
      clear hc7 hc8 hc9 hr7 hr8 hr9
      by_cases hck : checkR n m E = 0
      · obtain ⟨m1, m2⟩ := l4'.out hck
        cases hbd : badR n m E with
        | true =>
          rw [hck, m1, m2, hbd]
          clear hck m1 m2 hbd
          go_wp2_with fail
          refine (wakes24_any _).mono ?_
          rintro e w11 ⟨rfl, hb5⟩
          go_wp2
          go_ret
          exact ⟨rfl, hbw9.trans (hb5.mono hbw9.size)⟩
        | false =>
          obtain ⟨n1, n2, n3, n4, n5⟩ := l5'.out hck hbd
          simp only [Int.toNat_natCast] at n1 n2 n5
          rw [hck, m1, m2, hbd]
          have n3' := Lib.hid n3
          have n4' := Lib.hid n4
          have n5' := Lib.hid n5
          clear hck m1 m2 hbd n3 n4 n5
          rw [n1] at hc7' hc8' hr8' hl7 hl8
          rw [n2] at hc9' hl9
          rw [n1, n2]
          clear n1 n2
          go_wp2
          go_loopw [16] (fun i wr => ∃ i' : Nat, i' ≤ n ∧ i = .int .i64 i' ∧ ∃ d, wr = w9.drewN d) (fun i _ => n - (intOf i).toNat)
          case atStart => exact ⟨0, Nat.zero_le _, rfl, 0, rfl⟩
          case round =>
            obtain ⟨i, hi, rfl, d', rfl⟩ := hrel
            by_cases hlt : i < n
            · obtain ⟨b7, o7, rfl, hbl7, hcs7⟩ := hc7'.out (by omega)
              obtain ⟨b8, o8, rfl, hbl8, hcs8⟩ := hc8'.out (by omega)
              obtain ⟨b9, o9, rfl, hbl9, hcs9⟩ := hc9'.out (by omega)
              have q0 := hcs7 i hlt
              have q1 := hcs8 i hlt
              have q2 := hcs9 i (by omega)
              rw [n3'.out] at q1
              rw [n4'.out] at q2
              have hrx := hr8'.out i hlt
              rw [n3'.out] at hrx
              obtain ⟨x0, x1⟩ := hrx
              clear hcs7 hcs8 hcs9
              generalize potR n m E i = x at *
              have hwr : IntKind.i64.wrap (2 * x) = 2 * x := IntWalk.i64_in _ (by omega)
              go_wp2
              go_quiet (fail)
              go_wp2
              go_roundw
              case rel => exact ⟨i + 1, by omega, by go_num, _, rfl⟩
              case measure => simp [intOf]; omega
            · have hb4 := below_drewN hbw9 d'
              obtain ⟨b9, o9, rfl, hbl9, hcs9⟩ := hc9'.out (by omega)
              have q2 := hcs9 n (by omega)
              rw [n5'.out] at q2
              clear hcs9
              go_wp2_with fail
              refine (wakes24_any _).mono ?_
              rintro e w11 ⟨rfl, hb5⟩
              go_wp2
              go_ret
              exact ⟨rfl, hb4.trans (hb5.mono hb4.size)⟩
      · have hck' : (checkR n m E != 0) = true := by simpa using hck
        have hck2 : (checkR n m E == 0) = false := by simpa using hck
        clear hck
        go_wp2_with fail
        refine (wakes24_any _).mono ?_
        rintro e w11 ⟨rfl, hb5⟩
        go_wp2
        go_ret
        exact ⟨rfl, hbw9.trans (hb5.mono hbw9.size)⟩
end Go.Proofs.Ytoifcpdkophobaa
