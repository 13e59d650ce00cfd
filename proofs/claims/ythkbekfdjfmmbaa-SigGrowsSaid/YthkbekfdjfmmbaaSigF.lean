/- sig.Free, add. -/
import Derived.Test.YthkbekfdjfmmbaaSigE
namespace Go.Proofs.Ythkbekfdjfmmbaa
open Go.RowKit
set_option maxRecDepth 100000

def takenB (g : Sg) (name : ByteArray) (sort : Bool) : Bool := if sort then decide (0 ≤ sortI g name) else (decide (0 ≤ funI g name) || decide (0 ≤ macI g name)) || coreS name
def freeI (g : Sg) (name : ByteArray) (sort : Bool) : Int := if useS name then (if takenB g name sort then 32 else 0) else 31
def gbox (w : World) (sv fv mv : Value) : List (Nat × Nat × Value) := [(w.heap.size, 0, sv), (w.heap.size, 1, fv), (w.heap.size, 2, mv)]
theorem gbox_bx (w : World) (sv fv mv : Value) : Bx w (gbox w sv fv mv) (w.alloc (.cells #[sv, fv, mv] 26)) := ((Bx.nil w).row #[sv, fv, mv] 26).cast (by simp [rowK, gbox])
theorem gbox_cells {w x : World} {sv fv mv : Value} (h : Bx w (gbox w sv fv mv) x) : x.cell? ⟨w.heap.size, 0, none⟩ = some sv ∧ x.cell? ⟨w.heap.size, 1, none⟩ = some fv ∧ x.cell? ⟨w.heap.size, 2, none⟩ = some mv := ⟨h.cells.1.1, h.cells.2.1.1, h.cells.2.2.1.1⟩
set_option maxHeartbeats 2000000 in
theorem Free_any (sv fv mv : Value) (g : Sg) (name : ByteArray) (sort : Bool) (w : World) (hG : SgAt w sv fv mv g) (hf : FewG g) (hn : StrR name) :
    Calls Try.prog 13 #[.agg #[sv, fv, mv], .string name, .bool sort] w fun e w' => e = .returned (.int .i64 (freeI g name sort)) ∧ Below w.heap.size w w' := by
  have hx0 := Lib.hid (gbox_bx w sv fv mv)
  have hG' := Lib.hid hG
  have hSo := Lib.hid fun x (hb : Below w.heap.size w x) => Sort_any sv fv mv g name x (hG.below hb) hf
  have hFu := Lib.hid fun x (hb : Below w.heap.size w x) => Fun_any sv fv mv g name x (hG.below hb)
  have hMa := Lib.hid fun x (hb : Below w.heap.size w x) => Macro_any sv fv mv g name x (hG.below hb)
  have hfr : Hid (freeI g name sort = if useS name then (if takenB g name sort then 32 else 0) else 31) := rfl
  have htk : Hid (takenB g name sort = if sort then decide (0 ≤ sortI g name) else (decide (0 ≤ funI g name) || decide (0 ≤ macI g name)) || coreS name) := rfl
  cases hu : useS name with
  | false =>
    have hF : Hid (freeI g name sort = 31) := by unfold Hid; rw [hfr.out, hu]; rfl
    go_enter Try.func13, Try.ntmps13
    go_wp2_with (go_at_call 36; (with_reducible refine (usable_any _ _ hn).mono ?_); rintro e w2 ⟨rfl, rfl⟩)
    go_ret
    exact ⟨ret_int hF.out.symm, hx0.out.bel⟩
  | true =>
    have e1 : findV (sortI g name) = .tuple #[.int .i64 (max (sortI g name) 0), .bool (decide (0 ≤ sortI g name))] := rfl
    have e2 : findV (funI g name) = .tuple #[.int .i64 (max (funI g name) 0), .bool (decide (0 ≤ funI g name))] := rfl
    have e3 : findV (macI g name) = .tuple #[.int .i64 (max (macI g name) 0), .bool (decide (0 ≤ macI g name))] := rfl
    rw [e1] at hSo
    rw [e2] at hFu
    rw [e3] at hMa
    clear e1 e2 e3
    generalize max (sortI g name) 0 = m1 at *
    generalize max (funI g name) 0 = m2 at *
    generalize max (macI g name) 0 = m3 at *
    generalize decide (0 ≤ sortI g name) = q1 at *
    generalize decide (0 ≤ funI g name) = q2 at *
    generalize decide (0 ≤ macI g name) = q3 at *
    have hF : Hid (freeI g name sort = if takenB g name sort then 32 else 0) := by unfold Hid; rw [hfr.out, hu]; rfl
    go_enter Try.func13, Try.ntmps13
    go_wp2_with (go_at_call 36; (with_reducible refine (usable_any _ _ hn).mono ?_); rintro e w2 ⟨rfl, rfl⟩)
    refine (hSo.out _ hx0.out.bel).mono ?_
    rintro e w3 ⟨rfl, hb3⟩
    have hx3 := Lib.hid (hx0.out.step hb3)
    obtain ⟨k1, k2, k3⟩ := gbox_cells hx3.out
    clear hb3 hx0
    go_wp2_with fail
    clear k1 k2 k3
    refine (hFu.out _ hx3.out.bel).mono ?_
    rintro e w4 ⟨rfl, hb4⟩
    have hx4 := Lib.hid (hx3.out.step hb4)
    obtain ⟨k1, k2, k3⟩ := gbox_cells hx4.out
    clear hb4 hx3
    go_wp2_with fail
    clear k1 k2 k3
    refine (hMa.out _ hx4.out.bel).mono ?_
    rintro e w5 ⟨rfl, hb5⟩
    have hx5 := Lib.hid (hx4.out.step hb5)
    clear hb5 hx4
    cases hq : takenB g name sort with
    | true =>
      have hF2 : Hid (freeI g name sort = 32) := by unfold Hid; rw [hF.out, hq]; rfl
      rw [htk.out] at hq
      cases sort with
      | true =>
        cases q1 with
        | true =>
          clear hq
          go_wp2_with fail
          go_ret
          exact ⟨ret_int hF2.out.symm, hx5.out.bel⟩
        | false => cases hq
      | false =>
        cases q2 with
        | true =>
          clear hq
          go_wp2_with fail
          go_ret
          exact ⟨ret_int hF2.out.symm, hx5.out.bel⟩
        | false =>
          cases q3 with
          | true =>
            clear hq
            go_wp2_with fail
            go_ret
            exact ⟨ret_int hF2.out.symm, hx5.out.bel⟩
          | false =>
            have hc : coreS name = true := hq
            clear hq
            go_wp2_with (go_at_call 38; (with_reducible refine (Core_any _ _).mono ?_); rintro e w2 ⟨rfl, rfl⟩)
            go_ret
            exact ⟨ret_int hF2.out.symm, hx5.out.bel⟩
    | false =>
      have hF2 : Hid (freeI g name sort = 0) := by unfold Hid; rw [hF.out, hq]; rfl
      rw [htk.out] at hq
      cases sort with
      | true =>
        cases q1 with
        | false =>
          clear hq
          go_wp2_with fail
          go_ret
          exact ⟨ret_int hF2.out.symm, hx5.out.bel⟩
        | true => cases hq
      | false =>
        cases q2 with
        | true => cases hq
        | false =>
          cases q3 with
          | true => cases hq
          | false =>
            have hc : coreS name = false := hq
            clear hq
            go_wp2_with (go_at_call 38; (with_reducible refine (Core_any _ _).mono ?_); rintro e w2 ⟨rfl, rfl⟩)
            go_ret
            exact ⟨ret_int hF2.out.symm, hx5.out.bel⟩

/-- What add answers. -/
def addI (g : Sg) (name : ByteArray) (sort may : Bool) (many most : Int) : Int :=
  if checkG g = false then 2 else if freeI g name sort ≠ 0 then freeI g name sort else if may = false then 2 else if many = most then 40 else 0
set_option maxHeartbeats 1000000 in
theorem add_any (sv fv mv : Value) (g : Sg) (name : ByteArray) (sort may : Bool) (many most : Int) (w : World) (hG : SgAt w sv fv mv g) (hf : FewG g) (hn : StrR name) :
    Calls Try.prog 35 #[.agg #[sv, fv, mv], .string name, .bool sort, .bool may, .int .i64 many, .int .i64 most] w fun e w' => e = .returned (.int .i64 (addI g name sort may many most)) ∧ Below w.heap.size w w' := by
  have hx0 := Lib.hid (gbox_bx w sv fv mv)
  have hCh := Lib.hid fun x (hb : Below w.heap.size w x) => SCheck_any sv fv mv g x (hG.below hb) hf
  have hFr := Lib.hid fun x (hb : Below w.heap.size w x) => Free_any sv fv mv g name sort x (hG.below hb) hf hn
  have hA : Hid (addI g name sort may many most = if checkG g = false then 2 else if freeI g name sort ≠ 0 then freeI g name sort else if may = false then 2 else if many = most then 40 else 0) := rfl
  clear hG
  cases hc : checkG g with
  | false =>
    rw [hc] at hA hCh
    have hF : Hid (addI g name sort may many most = 2) := by unfold Hid; rw [hA.out, if_pos rfl]
    clear hA hc
    unfold chV at hCh
    go_enter Try.func35, Try.ntmps35
    go_wp2_with fail
    refine (hCh.out _ hx0.out.bel).mono ?_
    rintro e w3 ⟨rfl, hb3⟩
    have hx3 := Lib.hid (hx0.out.step hb3)
    clear hb3 hx0
    go_wp2_with fail
    go_ret
    exact ⟨ret_int hF.out.symm, hx3.out.bel⟩
  | true =>
    rw [hc] at hA hCh
    have hA2 : Hid (addI g name sort may many most = if freeI g name sort ≠ 0 then freeI g name sort else if may = false then 2 else if many = most then 40 else 0) := by unfold Hid; rw [hA.out, if_neg (by simp)]
    clear hA hc
    unfold chV at hCh
    generalize freeI g name sort = fr at *
    go_enter Try.func35, Try.ntmps35
    go_wp2_with fail
    refine (hCh.out _ hx0.out.bel).mono ?_
    rintro e w3 ⟨rfl, hb3⟩
    have hx3 := Lib.hid (hx0.out.step hb3)
    obtain ⟨k1, k2, k3⟩ := gbox_cells hx3.out
    clear hb3 hx0
    go_wp2_with fail
    clear k1 k2 k3
    refine (hFr.out _ hx3.out.bel).mono ?_
    rintro e w4 ⟨rfl, hb4⟩
    have hx4 := Lib.hid (hx3.out.step hb4)
    clear hb4 hx3
    by_cases h0 : fr = 0
    · have d0 : (fr != 0) = false := by simpa using h0
      have hA3 : Hid (addI g name sort may many most = if may = false then 2 else if many = most then 40 else 0) := by unfold Hid; rw [hA2.out, if_neg (fun h => h h0)]
      clear h0 hA2
      cases may with
      | false =>
        have hF : Hid (addI g name sort false many most = 2) := by unfold Hid; rw [hA3.out, if_pos rfl]
        go_wp2_with fail
        go_ret
        exact ⟨ret_int hF.out.symm, hx4.out.bel⟩
      | true =>
        by_cases hm : many = most
        · have hF : Hid (addI g name sort true many most = 40) := by unfold Hid; rw [hA3.out, if_neg (by simp), if_pos hm]
          have d1 : (many == most) = true := by simpa using hm
          clear hm hA3
          go_wp2_with fail
          go_ret
          exact ⟨ret_int hF.out.symm, hx4.out.bel⟩
        · have hF : Hid (addI g name sort true many most = 0) := by unfold Hid; rw [hA3.out, if_neg (by simp), if_neg hm]
          have d1 : (many == most) = false := by simpa using hm
          clear hm hA3
          go_wp2_with fail
          go_ret
          exact ⟨ret_int hF.out.symm, hx4.out.bel⟩
    · have d0 : (fr != 0) = true := by simpa using h0
      have hF : Hid (addI g name sort may many most = fr) := by unfold Hid; rw [hA2.out, if_pos h0]
      clear h0 hA2
      go_wp2_with fail
      go_ret
      exact ⟨ret_int hF.out.symm, hx4.out.bel⟩
end Go.Proofs.Ythkbekfdjfmmbaa
