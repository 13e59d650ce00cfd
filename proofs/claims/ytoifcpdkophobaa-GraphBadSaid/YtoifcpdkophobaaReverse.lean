/- slices.Reverse at a row of ints of the call's own. -/
import Derived.Test.YtoifcpdkophobaaWords
import Derived.BigRegion
namespace Go.Proofs.Ytoifcpdkophobaa
open Go.RowKit

/-- Block g holds ints, and may be written. -/
def BlkI (w : World) (g n : Nat) (f : Nat → Int) : Prop :=
  g < w.heap.size ∧ (∀ i, w.frozen? ⟨g, i, none⟩ = false) ∧ ∀ i, i < n → w.cell? ⟨g, i, none⟩ = some (.int .i64 (f i))
theorem BlkI.congr {w : World} {g n : Nat} {f h : Nat → Int} (hb : BlkI w g n f) (e : ∀ i, i < n → f i = h i) : BlkI w g n h :=
  ⟨hb.1, hb.2.1, fun i hi => by rw [← e i hi]; exact hb.2.2 i hi⟩
theorem BlkI.set {w : World} {g n k : Nat} {f : Nat → Int} {y : Int} (h : BlkI w g n f) (hk : k < n) : BlkI (w.setCell ⟨g, k, none⟩ (.int .i64 y)) g n (fun i => if i = k then y else f i) := by
  obtain ⟨h0, h1, h2⟩ := h
  refine ⟨by simpa using h0, fun i => by rw [World.frozen?_setCell]; exact h1 i, fun i hi => ?_⟩
  by_cases e : i = k
  · subst e
    show _ = some (Value.int .i64 (if i = i then y else f i))
    rw [if_pos rfl]
    exact World.cell?_setCell_same _ _ _ (h2 i hi)
  · show _ = some (Value.int .i64 (if i = k then y else f i))
    rw [if_neg e, World.cell?_setCell_other _ _ _ _ (by intro h; injection h; omega)]; exact h2 i hi
theorem BlkI.drew {w : World} {g n : Nat} {f : Nat → Int} (h : BlkI w g n f) : BlkI w.drew g n f := h
def revd (L k : Nat) (f : Nat → Int) : Nat → Int := fun x => if x < k ∨ L < x + k + 1 then f (L - 1 - x) else f x
theorem OwnL.blkI {w : World} {base : Nat} {v : Value} {xs : List Int} (h : OwnL w base v xs) (h0 : 0 < xs.length) : ∃ g c, v = .slice (some ⟨g, 0, none⟩) xs.length c ∧ base ≤ g ∧ BlkI w g xs.length (fun i => xs.getD i 0) := by
  obtain ⟨g, cap, rfl, hbase, hlt⟩ := World.ownsRow.form h h0
  refine ⟨g, cap, rfl, hbase, hlt, fun i => World.ownsRow.frozenAt h i, fun i hi => ?_⟩
  have := World.ownsRow.cellAt h i (by omega)
  rw [this]
  show _ = some (Value.int .i64 (xs.getD i 0))
  rw [getD_lt _ _ hi]; simp [hi]

set_option maxHeartbeats 800000 in
theorem Reverse_any (g L c : Nat) (f : Nat → Int) (w : World) (hB : BlkI w g L f) (hL : 0 < L) (hL2 : L ≤ 1000000) :
    Calls Try.prog 27 #[.slice (some ⟨g, 0, none⟩) L c] w fun e w' => e = .returned (.tuple #[]) ∧ BlkI w' g L (fun i => f (L - 1 - i)) ∧ ∀ B, B ≤ g → Below B w w' := by
  go_enter Try.func27, Try.ntmps27
  go_wp2
  go_loopw [2, 3] (fun i j wr => ∃ k : Nat, 2 * k ≤ L ∧ i = .int .i64 k ∧ j = .int .i64 ((L : Int) - 1 - k) ∧ Hid (BlkI wr g L (revd L k f)) ∧ ∀ B, B ≤ g → Below B w wr) (fun i _ _ => L - (intOf i).toNat)
  case atStart => exact ⟨0, by omega, rfl, by simp, hB.congr (fun i hi => by unfold revd; rw [if_neg (by omega)]), fun B _ => Below.refl _ _⟩
  case round =>
    obtain ⟨k, hk, rfl, rfl, hb, hbel⟩ := hrel
    have hbel' := Lib.hid hbel
    clear hbel
    by_cases hlt : (k : Int) < (L : Int) - 1 - k
    · obtain ⟨q, hq⟩ : ∃ q : Nat, (L : Int) - 1 - k = q := ⟨L - 1 - k, by omega⟩
      rw [hq] at hlt ⊢
      have hqL : q < L := by omega
      have hq' := Lib.hid hq
      clear hq
      have c0 := hb.out.2.2 k (by omega)
      have c1 := hb.out.2.2 q hqL
      have f0 := hb.out.2.1 k
      have f1 := hb.out.2.1 q
      generalize hx : revd L k f k = x at *
      generalize hy : revd L k f q = y at *
      have hx' := Lib.hid hx
      have hy' := Lib.hid hy
      clear hx hy
      go_wp2
      go_region
      go_wp2
      go_roundw
      case rel =>
        refine ⟨k + 1, by have := hq'.out; omega, by go_num, by have := hq'.out; congr 1; omega, ?_, fun B hBg => ?_⟩
        · have hne : k ≠ q := by omega
          first
            | refine BlkI.congr (((BlkI.set (hb.out) (k := k) (y := y) (by omega)).set (k := q) (y := x) hqL).drew) fun i hi => ?_
            | refine BlkI.congr (((BlkI.set (hb.out) (k := q) (y := x) hqL).set (k := k) (y := y) (by omega)).drew) fun i hi => ?_
          have hqq := hq'.out
          have e1 := hx'.out
          have e2 := hy'.out
          unfold revd at e1 e2 ⊢
          rw [if_neg (by omega)] at e1 e2
          by_cases a1 : i = q
          · subst a1
            simp only [if_true]
            try rw [if_neg (by omega)]
            rw [if_pos (by omega), ← e1, show L - 1 - i = k by omega]
          · by_cases a2 : i = k
            · subst a2
              rw [if_neg a1, if_pos rfl, if_pos (by omega), ← e2, show L - 1 - i = q by omega]
            · rw [if_neg a1, if_neg a2]
              by_cases a3 : i < k ∨ L < i + k + 1
              · rw [if_pos a3, if_pos (by omega)]
              · rw [if_neg a3, if_neg (by omega)]
        · first
            | exact (((hbel'.out B hBg).setCell (p := ⟨g, k, none⟩) hBg _).setCell (p := ⟨g, q, none⟩) hBg _).drew
            | exact (((hbel'.out B hBg).setCell (p := ⟨g, q, none⟩) hBg _).setCell (p := ⟨g, k, none⟩) hBg _).drew
      case measure => simp [intOf]; omega
    · go_wp2
      go_returns
      refine ⟨rfl, hb.out.congr fun i hi => ?_, hbel'.out⟩
      unfold revd
      by_cases a3 : i < k ∨ L < i + k + 1
      · rw [if_pos a3]
      · rw [if_neg a3, show L - 1 - i = i by omega]
end Go.Proofs.Ytoifcpdkophobaa
