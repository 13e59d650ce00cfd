/- idl.Lemma. -/
import Derived.Test.YtioceechdombjaaIdlF
namespace Go.Proofs.Ytioceechdombjaa
open Go.RowKit Go.Maps
set_option maxRecDepth 100000

def negTo (xs : List Int) (j : Nat) : List Int := (xs.take j).map negL ++ xs.drop j
theorem negTo_len (xs : List Int) (j : Nat) : (negTo xs j).length = xs.length := by unfold negTo; simp; omega
theorem negTo_at (xs : List Int) (j : Nat) (h : j < xs.length) : gfn (negTo xs j) j = gfn xs j := by
  unfold gfn negTo
  rw [List.getD_eq_getElem?_getD, List.getElem?_append_right (by simp; omega), List.length_map, List.length_take, Nat.min_eq_left (by omega), Nat.sub_self, List.getElem?_drop, Nat.add_zero, List.getD_eq_getElem?_getD]
theorem negTo_next (xs : List Int) (j : Nat) (h : j < xs.length) : (negTo xs j).set j (negL (gfn xs j)) = negTo xs (j + 1) := by
  unfold negTo
  rw [take_next xs j h, List.map_append, List.set_append_right _ _ (by simp; omega), List.length_map, List.length_take, Nat.min_eq_left (by omega), Nat.sub_self, List.append_assoc]
  congr 1
  rw [List.drop_eq_getElem_cons h, List.set_cons_zero]
  rfl
theorem negTo_zero (xs : List Int) : negTo xs 0 = xs := by unfold negTo; simp
theorem negTo_all (xs : List Int) : negTo xs xs.length = xs.map negL := by unfold negTo; simp
theorem bad_neg {n : Nat} {N : Nat → Nd} {x : Int} (h : badLit n N x = false) : badLit n N (negL x) = false ∧ 0 ≤ negL x ∧ negL (negL x) = x ∧ negL x / 2 = x / 2 := by
  have h0 := (badLit_lt h).1
  have e : negL x / 2 = x / 2 := by unfold negL; split <;> omega
  refine ⟨?_, by unfold negL; split <;> omega, by unfold negL; split <;> split <;> omega, e⟩
  unfold badLit at *
  rw [e]
  have h1 : decide (negL x < 0) = false := by rw [decide_eq_false_iff_not]; unfold negL; split <;> omega
  have h2 : decide (x < 0) = false := by rw [decide_eq_false_iff_not]; omega
  rw [h2] at h
  rw [h1]
  exact h
theorem bad_R {n : Nat} {N : Nat → Nd} (hn : n ≤ 1000000) {x : Int} (h : badLit n N x = false) : R64 x ∧ x ≤ 2000001 := by
  obtain ⟨h0, h1, _⟩ := badLit_lt h
  unfold R64
  omega

theorem icK_zero {n : Nat} {N : Nat → Nd} {xs : List Int} (h : icB n N xs = true) : icK n N xs = 0 := by
  unfold icB badR at h
  exact (of_decide_eq_true h).1
theorem ckE_zero {n : Nat} {N : Nat → Nd} {xs : List Int} (h : ckB n N xs = true) : ckE n N xs = 0 := by
  unfold ckB at h
  rw [Bool.and_eq_true] at h
  unfold ckE
  rw [if_pos h.1]
  exact icK_zero h.2
theorem Bx.side {w x : World} {K : List (Nat × Nat × Value)} (h : Bx w K x) {b o : Nat} (u : Value) (hne : ∀ a ∈ K, a.1 ≠ b) (hw : w.heap.size ≤ b) : Bx w K (x.setCell ⟨b, o, none⟩ u) := ⟨h.cells.set hne, h.bel.setCell hw _⟩

set_option maxHeartbeats 4000000 in
theorem Lemma_any (v u : Value) (n : Nat) (N : Nat → Nd) (xs : List Int) (w : World) (hv : NdsAt w v n N) (hn : n ≤ 4096) (hch : CheckP n N) (hu : IntsAt w u xs.length (gfn xs)) (hm : xs.length ≤ 1000) (hxs : ∀ x ∈ xs, badLit n N x = false) :
    Calls Try.prog 10 #[.agg #[v], u] w fun e w' => e = .returned (.bool (ckB n N (xs.map negL))) ∧ Below w.heap.size w w' := by
  have hv' := Lib.hid hv
  have hu' := Lib.hid hu
  have hxs' := Lib.hid hxs
  have hch' := Lib.hid hch
  have hneg : Hid (∀ x ∈ xs.map negL, badLit n N x = false) := by
    intro x hx
    obtain ⟨y, hy, rfl⟩ := List.mem_map.1 hx
    exact (bad_neg (hxs y hy)).1
  obtain ⟨A, c, rfl, _, _, hcs⟩ := hv
  obtain ⟨b, o, rfl, hbl, hcs⟩ := hcs (by have := hch.two; omega)
  obtain ⟨U, cu, rfl, _, _, _⟩ := hu
  have hx0 := (Bx.nil w).one (.slice (some ⟨b, o, none⟩) n c) 33
  clear hcs hch hxs
  go_enter Try.func10, Try.ntmps10
  go_wp2_with fail
  refine (Clone_any _ xs _ (hu'.out.below hx0.bel) hm).mono ?_
  rintro e w2 ⟨z2, rfl, ho2, hb2⟩
  have hx2 := hx0.step hb2
  rw [World.size_alloc] at ho2
  obtain ⟨Z, zc, rfl⟩ := ho2.ints (by omega) (fun x hx => (bad_R (by omega) (hxs'.out x hx)).1) |> fun h => (⟨h.choose, h.choose_spec.choose, h.choose_spec.choose_spec.1⟩ : ∃ A c, z2 = .slice A xs.length c)
  have ho2' := Lib.hid ho2
  have hx2' := Lib.hid hx2
  clear ho2 hb2 hx0 hx2
  go_wp2
  go_loopw [15] (fun i wr => ∃ j : Nat, j ≤ xs.length ∧ i = .int .i64 j ∧ Hid (OwnL wr (w.heap.size + 1) (.slice Z xs.length zc) (negTo xs j)) ∧ Hid (Bx w ((w.heap.size, 0, .slice (some ⟨b, o, none⟩) n c) :: []) wr)) (fun i _ => xs.length - (intOf i).toNat)
  case atStart => exact ⟨0, Nat.zero_le _, rfl, by rw [negTo_zero]; exact ho2'.out, hx2'.out⟩
  case round =>
    clear ho2' hx2'
    obtain ⟨j, hj, rfl, hown, hx⟩ := hrel
    by_cases hlt : j < xs.length
    · have hlt' : j < (negTo xs j).length := by rw [negTo_len]; exact hlt
      obtain ⟨g, hg⟩ : ∃ g, Z = some ⟨g, 0, none⟩ := by
        obtain ⟨g, cap, hv, _, _⟩ := World.ownsRow.form hown.out (show 0 < (negTo xs j).length by omega)
        injection hv with e1 _ _
        exact ⟨g, e1⟩
      subst hg
      obtain ⟨hset, hc0, hf0, -, hg0, hgl⟩ := hown.out.set_at j hlt' (negL (gfn xs j))
      rw [negTo_next xs j hlt] at hset
      rw [negTo_at xs j hlt] at hc0
      have hbj := hxs'.out _ (gfn_mem hlt)
      have h0 := (badLit_lt hbj).1
      have h1 := (bad_R (by omega) hbj).2
      have i1 : decide ((j : Int) < (xs.length : Int)) = true := decide_eq_true (by omega)
      have hset' := Lib.hid hset
      clear hset hbj
      generalize gfn xs j = X at *
      have i2 : decide (X < 0) = false := decide_eq_false (by omega)
      go_wp2_with fail
      refine (Neg_any X wr h0 (by omega)).mono ?_
      rintro e w3 ⟨rfl, rfl⟩
      go_wp2
      go_roundw
      case rel => exact ⟨j + 1, by omega, by go_num, hset'.out, hx.out.side _ (by intro a ha; simp at ha; subst ha; show w.heap.size ≠ g; omega) (by omega)⟩
      case measure => simp [intOf]; omega
    · have hjl : j = xs.length := by omega
      have i1 : decide ((j : Int) < (xs.length : Int)) = false := decide_eq_false (by omega)
      rw [hjl, negTo_all] at hown
      obtain ⟨⟨q0, _⟩, -⟩ := hx.out.cells
      have hli := hown.out.ints (by simp; omega) (fun x hx => (bad_R (by omega) (hneg.out x hx)).1)
      have hli' := Lib.hid hli
      clear hli
      go_wp2_with fail
      refine (ICheck_any _ _ n N (xs.map negL) wr (hv'.out.below hx.out.bel) hn hch'.out hli'.out (by simp; omega) hneg.out).mono ?_
      rintro e w5 ⟨z5, rfl, ho5, hb5⟩
      have hR : Hid (ckB n N (xs.map negL) = true → ckE n N (xs.map negL) = 0) := by
        exact ckE_zero
      cases hB : ckB n N (xs.map negL) with
      | true =>
        rw [hR.out hB]
        go_wp2
        go_ret
        exact ⟨by rw [hB]; rfl, hx.out.bel.trans (hb5.mono hx.out.bel.size)⟩
      | false =>
        go_wp2
        go_ret
        exact ⟨by rw [hB]; rfl, hx.out.bel.trans (hb5.mono hx.out.bel.size)⟩
end Go.Proofs.Ytioceechdombjaa
