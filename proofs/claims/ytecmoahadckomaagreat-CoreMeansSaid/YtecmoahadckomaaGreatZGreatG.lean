/- gantryref04.size, Great: bounds alone. -/
import Derived.Test.YtecmoahadckomaaGreatZSigWSigN
import Derived.Test.YtecmoahadckomaaGreatZIntsToNumW
import Derived.BigRegion
import Derived.BigQuiet
import Derived.Deep.CutRange
import Derived.Deep.QuietTactic
import Derived.Deep.RegionHeld3
namespace Go.Proofs.YtecmoahadckomaaGreat
open Go.RowKit
set_option maxRecDepth 100000

def SizeP (most : Int) (e : Ending) : Prop := ∃ z : Int, e = .returned (.int .i64 z) ∧ 1 ≤ z ∧ z ≤ most + 5000
set_option maxHeartbeats 2000000 in
theorem size_any : ∀ (x : Sx) (kv tv lv : Value) (most : Int) (w : World), SxIs w x kv tv lv → 1 ≤ most → most ≤ 4000 →
    Calls Tryz.prog 11 #[.agg #[kv, tv, lv], .int .i64 most] w fun e w' => SizeP most e ∧ Below w.heap.size w w'
  | .nil, _, _, _, _, _, h, _, _ => h.elim
  | .mk k t n l, kv, tv, lv, most, w, h, m1, m2 => by
    have ih := fun i => size_any (l i)
    obtain ⟨rfl, hk, rfl, ht, hl⟩ := h.row
    have hl' := Lib.hid hl
    have ih' := Lib.hid ih
    clear ih h
    obtain ⟨A, c, rfl, ⟨hn, hc⟩, -⟩ := hl
    have hx0 := Lib.hid (((Bx.nil w).row #[.int .i8 k, .string t, .slice A n c] 53).cast (L := [(w.heap.size, 0, .int .i8 k), (w.heap.size, 1, .string t), (w.heap.size, 2, .slice A n c)]) (by simp [rowK]))
    unfold StrR at ht
    by_cases h5 : 5000 < t.size
    · have h5' : (5000 : Int) < (t.size : Int) := by omega
      go_enter Tryz.func11, Tryz.ntmps11
      go_wp2_with fail
      go_loopw [5, 6] (fun s i wr => ∃ j : Nat, j ≤ n ∧ i = .int .i64 j ∧ (∃ z : Int, s = .int .i64 z ∧ 1 ≤ z ∧ z ≤ most + 5000) ∧ Hid (Bx w [(w.heap.size, 0, .int .i8 k), (w.heap.size, 1, .string t), (w.heap.size, 2, .slice A n c)] wr)) (fun _ i _ => n - (intOf i).toNat)
      case atStart => exact ⟨0, Nat.zero_le _, rfl, ⟨_, rfl, by omega, by omega⟩, hx0.out⟩
      case round =>
        obtain ⟨j, hj, rfl, ⟨z, rfl, z1, z2⟩, hx⟩ := hrel
        obtain ⟨⟨k0, _⟩, ⟨k1, _⟩, ⟨k2, _⟩, _⟩ := hx.out.cells
        by_cases hlt : j < n
        · have i1 : decide ((j : Int) < (n : Int)) = true := decide_eq_true (by omega)
          by_cases hm : z < most
          · have i2 : decide (z < most) = true := decide_eq_true hm
            obtain ⟨_, _, e, _, hcs⟩ := hl'.out.below hx.out.bel
            injection e with e1 _ e3
            subst e1; subst e3
            obtain ⟨b, o, rfl, hbl, hcs⟩ := hcs (by omega)
            obtain ⟨k', t', l', c0, c1, c2, hxx⟩ := hcs j hlt
            obtain ⟨kk, tt, AA, nn, cc, rfl, rfl, rfl⟩ := hxx.forms
            clear hcs
            have hcall := Lib.hid (ih'.out j _ _ _ (most - z) wr hxx (by omega) (by omega))
            clear hxx
            go_wp2_with fail
            refine hcall.out.mono ?_
            rintro e w2 ⟨⟨y, rfl, y1, y2⟩, hb2⟩
            have hx2 := Lib.hid (hx.out.step hb2)
            clear hb2
            go_wp2_with fail
            go_roundw
            case rel => exact ⟨j + 1, by omega, by go_num, ⟨_, rfl, by omega, by omega⟩, hx2.out⟩
            case measure => simp [intOf]; omega
          · have i2 : decide (z < most) = false := decide_eq_false hm
            go_wp2_with fail
            go_ret
            exact ⟨⟨z, rfl, z1, z2⟩, hx.out.bel⟩
        · have i1 : decide ((j : Int) < (n : Int)) = false := decide_eq_false (by omega)
          go_wp2_with fail
          go_ret
          exact ⟨⟨z, rfl, z1, z2⟩, hx.out.bel⟩
    · have h5' : (t.size : Int) ≤ 5000 := by omega
      go_enter Tryz.func11, Tryz.ntmps11
      go_wp2_with fail
      go_loopw [5, 6] (fun s i wr => ∃ j : Nat, j ≤ n ∧ i = .int .i64 j ∧ (∃ z : Int, s = .int .i64 z ∧ 1 ≤ z ∧ z ≤ most + 5000) ∧ Hid (Bx w [(w.heap.size, 0, .int .i8 k), (w.heap.size, 1, .string t), (w.heap.size, 2, .slice A n c)] wr)) (fun _ i _ => n - (intOf i).toNat)
      case atStart => exact ⟨0, Nat.zero_le _, rfl, ⟨_, rfl, by omega, by omega⟩, hx0.out⟩
      case round =>
        obtain ⟨j, hj, rfl, ⟨z, rfl, z1, z2⟩, hx⟩ := hrel
        obtain ⟨⟨k0, _⟩, ⟨k1, _⟩, ⟨k2, _⟩, _⟩ := hx.out.cells
        by_cases hlt : j < n
        · have i1 : decide ((j : Int) < (n : Int)) = true := decide_eq_true (by omega)
          by_cases hm : z < most
          · have i2 : decide (z < most) = true := decide_eq_true hm
            obtain ⟨_, _, e, _, hcs⟩ := hl'.out.below hx.out.bel
            injection e with e1 _ e3
            subst e1; subst e3
            obtain ⟨b, o, rfl, hbl, hcs⟩ := hcs (by omega)
            obtain ⟨k', t', l', c0, c1, c2, hxx⟩ := hcs j hlt
            obtain ⟨kk, tt, AA, nn, cc, rfl, rfl, rfl⟩ := hxx.forms
            clear hcs
            have hcall := Lib.hid (ih'.out j _ _ _ (most - z) wr hxx (by omega) (by omega))
            clear hxx
            go_wp2_with fail
            refine hcall.out.mono ?_
            rintro e w2 ⟨⟨y, rfl, y1, y2⟩, hb2⟩
            have hx2 := Lib.hid (hx.out.step hb2)
            clear hb2
            go_wp2_with fail
            go_roundw
            case rel => exact ⟨j + 1, by omega, by go_num, ⟨_, rfl, by omega, by omega⟩, hx2.out⟩
            case measure => simp [intOf]; omega
          · have i2 : decide (z < most) = false := decide_eq_false hm
            go_wp2_with fail
            go_ret
            exact ⟨⟨z, rfl, z1, z2⟩, hx.out.bel⟩
        · have i1 : decide ((j : Int) < (n : Int)) = false := decide_eq_false (by omega)
          go_wp2_with fail
          go_ret
          exact ⟨⟨z, rfl, z1, z2⟩, hx.out.bel⟩

def GreatP (g : Sg) (e : Ending) : Prop := ∃ b, e = .returned (.bool b) ∧ (b = false → FewG g)
set_option maxHeartbeats 4000000 in
theorem Great_any (sv fv mv : Value) (g : Sg) (w : World) (hG : SgAt w sv fv mv g) :
    Calls Tryz.prog 4 #[.agg #[sv, fv, mv]] w fun e w' => GreatP g e ∧ Below w.heap.size w w' := by
  obtain ⟨A, c, rfl, ⟨hn, hc⟩, -⟩ := hG.1
  obtain ⟨FA, fc, rfl, ⟨hfn, hfc⟩, -⟩ := hG.2.1
  have hM := hG.2.2
  have hM' := Lib.hid hM
  obtain ⟨MA, mc, rfl, ⟨hmn, hmc⟩, -⟩ := hM
  have hx0 := Lib.hid (((Bx.nil w).row #[.slice A g.ns c, .slice FA g.nf fc, .slice MA g.nm mc] 26).cast (L := [(w.heap.size, 0, .slice A g.ns c), (w.heap.size, 1, .slice FA g.nf fc), (w.heap.size, 2, .slice MA g.nm mc)]) (by simp [rowK]))
  clear hG
  by_cases h1 : 20 < g.ns
  · have d1 : decide ((20 : Int) < (g.ns : Int)) = true := decide_eq_true (by omega)
    go_enter Tryz.func4, Tryz.ntmps4
    go_wp2_with fail
    go_ret
    exact ⟨⟨true, rfl, fun h => by cases h⟩, hx0.out.bel⟩
  · have d1 : decide ((20 : Int) < (g.ns : Int)) = false := decide_eq_false (by omega)
    by_cases h2 : 40 < g.nf
    · have d2 : decide ((40 : Int) < (g.nf : Int)) = true := decide_eq_true (by omega)
      go_enter Tryz.func4, Tryz.ntmps4
      go_wp2_with fail
      go_ret
      exact ⟨⟨true, rfl, fun h => by cases h⟩, hx0.out.bel⟩
    · have d2 : decide ((40 : Int) < (g.nf : Int)) = false := decide_eq_false (by omega)
      by_cases h3 : 40 < g.nm
      · have d3 : decide ((40 : Int) < (g.nm : Int)) = true := decide_eq_true (by omega)
        go_enter Tryz.func4, Tryz.ntmps4
        go_wp2_with fail
        go_ret
        exact ⟨⟨true, rfl, fun h => by cases h⟩, hx0.out.bel⟩
      · have d3 : decide ((40 : Int) < (g.nm : Int)) = false := decide_eq_false (by omega)
        have hfew : Hid (FewG g) := ⟨by omega, by omega, by omega⟩
        go_enter Tryz.func4, Tryz.ntmps4
        go_wp2_with fail
        go_loopw [3, 4] (fun s i wr => ∃ j : Nat, j ≤ g.nm ∧ i = .int .i64 j ∧ (∃ z : Int, s = .int .i64 z ∧ 0 ≤ z ∧ z ≤ 9000 * j) ∧ Hid (Bx w [(w.heap.size, 0, .slice A g.ns c), (w.heap.size, 1, .slice FA g.nf fc), (w.heap.size, 2, .slice MA g.nm mc)] wr)) (fun _ i _ => g.nm - (intOf i).toNat)
        case atStart => exact ⟨0, Nat.zero_le _, rfl, ⟨_, rfl, by omega, by omega⟩, hx0.out⟩
        case round =>
          obtain ⟨j, hj, rfl, ⟨z, rfl, z1, z2⟩, hx⟩ := hrel
          obtain ⟨⟨k0, _⟩, ⟨k1, _⟩, ⟨k2, _⟩, _⟩ := hx.out.cells
          by_cases hlt : j < g.nm
          · have i1 : decide ((j : Int) < (g.nm : Int)) = true := decide_eq_true (by omega)
            obtain ⟨_, _, e, _, hcs⟩ := hM'.out.below hx.out.bel
            injection e with e1 _ e3
            subst e1; subst e3
            obtain ⟨b, o, rfl, hbl, hcs⟩ := hcs (by omega)
            obtain ⟨v0, v1, v2, v3, v4, v5, ⟨p0, p1, p2, p3, p4, p5⟩, rfl, -, hP, rfl, -, hB⟩ := hcs j hlt
            obtain ⟨PA, pc, rfl, ⟨hp1, hp2⟩, -⟩ := hP
            obtain ⟨kk, tt, AA, nn, cc, rfl, rfl, rfl⟩ := hB.forms
            clear hcs
            have hcall := Lib.hid (size_any _ _ _ _ 4000 wr hB (by omega) (by omega))
            clear hB
            have p1' := Lib.hid p1
            go_wp2_with fail
            refine hcall.out.mono ?_
            rintro e w2 ⟨⟨y, rfl, y1, y2⟩, hb2⟩
            have hx2 := Lib.hid (hx.out.step hb2)
            obtain ⟨⟨k0, _⟩, ⟨k1, _⟩, ⟨k2, _⟩, _⟩ := hx2.out.cells
            have p1 := (hb2.cell (p := ⟨b, o + j * 6 + 1, none⟩) hbl).trans p1'.out
            clear hb2
            by_cases hp : 20 < (g.M j).np
            · have d4 : decide ((20 : Int) < ((g.M j).np : Int)) = true := decide_eq_true (by omega)
              go_wp2_with fail
              go_ret
              exact ⟨⟨true, rfl, fun h => by cases h⟩, hx2.out.bel⟩
            · have d4 : decide ((20 : Int) < ((g.M j).np : Int)) = false := decide_eq_false (by omega)
              go_wp2_with fail
              go_roundw
              case rel => exact ⟨j + 1, by omega, by go_num, ⟨_, rfl, by omega, by omega⟩, hx2.out⟩
              case measure => simp [intOf]; omega
          · have i1 : decide ((j : Int) < (g.nm : Int)) = false := decide_eq_false (by omega)
            go_wp2_with fail
            go_ret
            exact ⟨⟨_, rfl, fun _ => hfew.out⟩, hx.out.bel⟩
end Go.Proofs.YtecmoahadckomaaGreat
