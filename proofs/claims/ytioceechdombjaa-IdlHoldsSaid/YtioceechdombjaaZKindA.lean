/- atoms.Kind. -/
import Derived.Test.YtioceechdombjaaZRCheckAtmA
namespace Go.Proofs.Ytioceechdombjaa
open Go.RowKit Go.Maps
set_option maxRecDepth 100000

def kdT (op : Int) : Int := if op = 0 then 1 else if op = 1 then 2 else if (2 ≤ op ∧ op ≤ 5) ∨ op = 7 then 3 else if op = 8 ∨ op = 9 then 7 else if op = 12 then 6 else if op = 13 then 8 else 0
def kdE (s : Int) : Int := if s = 0 then 3 else if s = 1 then 5 else if 2 ≤ s then 4 else 0
/-- What a node is. -/
def kindN (n : Nat) (N : Nat → Nd) (id : Int) : Int :=
  if sortN n N id ≠ 0 then 0 else if (N id.toNat).op = 6 then kdE (sortN n N (N id.toNat).a0) else kdT (N id.toNat).op
theorem kdT_out {op : Int} (h : op < 0 ∨ 13 < op) : kdT op = 0 := by
  unfold kdT
  rw [if_neg (by omega), if_neg (by omega), if_neg (by omega), if_neg (by omega), if_neg (by omega), if_neg (by omega)]
theorem kind_none {n : Nat} {N : Nat → Nd} {id : Int} (h : sortN n N id ≠ 0) : kindN n N id = 0 := if_pos h
theorem kind_at {n : Nat} {N : Nat → Nd} {id : Int} (h : sortN n N id = 0) (h6 : (N id.toNat).op ≠ 6) : kindN n N id = kdT (N id.toNat).op := by
  unfold kindN; rw [if_neg (by rw [h]; decide), if_neg h6]
theorem kind_eq {n : Nat} {N : Nat → Nd} {id : Int} (h : sortN n N id = 0) (h6 : (N id.toNat).op = 6) : kindN n N id = kdE (sortN n N (N id.toNat).a0) := by
  unfold kindN; rw [if_neg (by rw [h]; decide), if_pos h6]
theorem sort_in {n : Nat} {N : Nat → Nd} {id : Int} (h : sortN n N id = 0) : 0 ≤ id ∧ id < n := by
  unfold sortN at h
  split at h
  · assumption
  · omega

set_option maxHeartbeats 4000000 in
theorem Kind_any (v : Value) (n : Nat) (N : Nat → Nd) (id : Int) (w : World) (hv : NdsAt w v n N) (hn : n ≤ 1000000) (hid : R64 id) :
    Calls Try.prog 60 #[.agg #[v], .int .i64 id] w fun e w' => e = .returned (.int .i8 (kindN n N id)) ∧ Below w.heap.size w w' := by
  have hv' := Lib.hid hv
  have hRs := sortN_R hv id
  have hr := Lib.hid hv.ranges
  obtain ⟨A, c, rfl, hc, _, hcs⟩ := hv
  have hx0 := (Bx.nil w).one (.slice A n c) 33
  have hc0 : (w.alloc (.cells #[.slice A n c] 33)).cell? ⟨w.heap.size, 0, none⟩ = some (.slice A n c) := by simp
  have hN0 := Lib.hid (hv'.out.below hx0.bel)
  by_cases h0 : sortN n N id = 0
  · obtain ⟨i0, i1⟩ := sort_in h0
    have h0' := Lib.hid h0
    obtain ⟨b, o, rfl, hbl, hcs⟩ := hcs (by omega)
    have hjn : id.toNat < n := by omega
    have hRj := hr.out _ hjn
    obtain ⟨e0, e1, e2, e3, e4, e5, e6, e7⟩ := hcs _ hjn
    have hop := hRj.op
    have ha0 := hRj.a0
    clear hcs
    by_cases h6 : (N id.toNat).op = 6
    · have hR := Lib.hid (kind_eq h0 h6)
      have hRs2 := sortN_R hv'.out (N id.toNat).a0
      generalize (N id.toNat).a0 = a at *
      rw [h6] at e0
      clear h0 h6 hRj hop hRs
      go_enter Try.func60, Try.ntmps60
      go_wp2_with fail
      refine (Asort_any w.heap.size _ n c N id _ hc0 hN0.out hn hid).mono ?_
      rintro e w2 ⟨rfl, rfl⟩
      rw [h0'.out]
      go_wp2_with fail
      refine (Asort_any w.heap.size _ n c N a _ ((((Below.refl (w.alloc (.cells #[.slice (some ⟨b, o, none⟩) n c] 33)).heap.size (w.alloc (.cells #[.slice (some ⟨b, o, none⟩) n c] 33))).alloc (Nat.le_refl _) _).cell (p := ⟨w.heap.size, 0, none⟩) (by simp)).trans hc0) (hN0.out.alloc _) hn ha0).mono ?_
      rintro e w2 ⟨rfl, rfl⟩
      by_cases s0 : sortN n N a = 0
      · rw [s0] at hR ⊢
        go_wp2
        go_ret
        exact ⟨by rw [hR.out]; rfl, (hx0.skip _).bel⟩
      · by_cases s1 : sortN n N a = 1
        · rw [s1] at hR ⊢
          go_wp2
          go_ret
          exact ⟨by rw [hR.out]; rfl, (hx0.skip _).bel⟩
        · by_cases s2 : 2 ≤ sortN n N a
          · have hR2 : Hid (kdE (sortN n N a) = 4) := by unfold Hid kdE; rw [if_neg s0, if_neg s1, if_pos s2]
            have t0 : (sortN n N a == 0) = false := by simpa using s0
            have t1 : (sortN n N a == 1) = false := by simpa using s1
            have t2 : decide (2 ≤ sortN n N a) = true := by simpa using s2
            clear s0 s1 s2
            go_wp2
            go_ret
            exact ⟨by rw [hR.out, hR2.out]; rfl, (hx0.skip _).bel⟩
          · have hR2 : Hid (kdE (sortN n N a) = 0) := by unfold Hid kdE; rw [if_neg s0, if_neg s1, if_neg s2]
            have t0 : (sortN n N a == 0) = false := by simpa using s0
            have t1 : (sortN n N a == 1) = false := by simpa using s1
            have t2 : decide (2 ≤ sortN n N a) = false := by simpa using s2
            clear s0 s1 s2
            go_wp2
            go_ret
            exact ⟨by rw [hR.out, hR2.out]; rfl, (hx0.skip _).bel⟩
    · have hR := Lib.hid (kind_at h0 h6)
      have d6 : ((N id.toNat).op != 6) = true := by simpa using h6
      have h6' := Lib.hid h6
      clear h0 h6 hRj ha0 hRs
      generalize (N id.toNat).op = op at *
      by_cases ho : op < 0 ∨ 13 < op
      · have hR2 := Lib.hid (kdT_out ho)
        by_cases hneg : op < 0
        · have dn : decide (op < 0) = true := by simpa using hneg
          clear ho hneg
          go_enter Try.func60, Try.ntmps60
          go_wp2_with fail
          refine (Asort_any w.heap.size _ n c N id _ hc0 hN0.out hn hid).mono ?_
          rintro e w2 ⟨rfl, rfl⟩
          rw [h0'.out]
          go_wp2
          go_ret
          exact ⟨by rw [hR.out, hR2.out]; rfl, (hx0.skip _).bel⟩
        · have dn : decide (op < 0) = false := by simpa using hneg
          have dm : decide (14 ≤ op) = true := by simp; omega
          obtain ⟨p0, p1⟩ := hop
          clear ho hneg
          go_enter Try.func60, Try.ntmps60
          go_wp2_with fail
          refine (Asort_any w.heap.size _ n c N id _ hc0 hN0.out hn hid).mono ?_
          rintro e w2 ⟨rfl, rfl⟩
          rw [h0'.out]
          go_wp2
          go_ret
          exact ⟨by rw [hR.out, hR2.out]; rfl, (hx0.skip _).bel⟩
      · have hcases : op = 0 ∨ op = 1 ∨ op = 2 ∨ op = 3 ∨ op = 4 ∨ op = 5 ∨ op = 7 ∨ op = 8 ∨ op = 9 ∨ op = 10 ∨ op = 11 ∨ op = 12 ∨ op = 13 := by have := h6'.out; omega
        clear ho d6 h6' hop
        rcases hcases with rfl | rfl | rfl | rfl | rfl | rfl | rfl | rfl | rfl | rfl | rfl | rfl | rfl
        all_goals
          go_enter Try.func60, Try.ntmps60
          go_wp2_with fail
          refine (Asort_any w.heap.size _ n c N id _ hc0 hN0.out hn hid).mono ?_
          rintro e w2 ⟨rfl, rfl⟩
          rw [h0'.out]
          go_wp2
          go_ret
          exact ⟨by rw [hR.out]; rfl, (hx0.skip _).bel⟩
  · have hR := Lib.hid (kind_none h0)
    have d0 : (sortN n N id != 0) = true := by simpa using h0
    clear h0 hcs
    go_enter Try.func60, Try.ntmps60
    go_wp2_with fail
    refine (Asort_any w.heap.size _ n c N id _ hc0 hN0.out hn hid).mono ?_
    rintro e w2 ⟨rfl, rfl⟩
    generalize sortN n N id = s at *
    go_wp2
    go_ret
    exact ⟨by rw [hR.out]; rfl, hx0.bel⟩
end Go.Proofs.Ytioceechdombjaa
