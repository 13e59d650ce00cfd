/- gantrylaw06.wakes; small slices of numbers that the call makes. -/
import Derived.Test.YthkbekfdjfmmbaaZTyTab
import Derived.Test.YthkbekfdjfmmbaaZRCheck
namespace Go.Proofs.Ythkbekfdjfmmbaa
open Go.RowKit
set_option maxRecDepth 100000

def fl (xs : List Int) (i : Nat) : Int := xs.getD i 0
theorem ints_lit (w : World) (xs : List Int) (vs : Array Value) (n : Nat) (t : TypeId) (hn : xs.length = n) (hv : vs = (xs.map fun x => Value.int .i64 x).toArray) (h : ∀ x ∈ xs, R64 x) (hl : n ≤ 1000) :
    IntsAt (w.alloc (.cells vs t)) (.slice (some ⟨w.heap.size, 0, none⟩) n n) n (fl xs) := by
  subst hn; subst hv
  refine ⟨_, _, rfl, by omega, fun i hi => ?_, fun h0 => ⟨_, _, rfl, by simp, fun i hi => ?_⟩⟩
  · unfold fl
    rw [List.getD_eq_getElem?_getD, List.getElem?_eq_getElem hi]
    exact h _ (List.getElem_mem hi)
  · have hr := World.rowIs_alloc w (xs.map fun x => Value.int .i64 x).toArray t (fun i => .int .i64 (fl xs i)) (fun i hi => by
      simp at hi
      simp [fl, hi])
    have := hr.cell (i := i) (by simpa using hi)
    rw [Nat.zero_add]
    exact this
theorem lit_cap (b : Nat) {n : Nat} (h : n ≤ 1000) : CapOk (.slice (some ⟨b, 0, none⟩) n n) := fun A m c e => by
  injection e with _ e1 e2
  omega
theorem small_R {l : List Int} (h : (l.all fun x => decide (0 ≤ x ∧ x ≤ 100)) = true) : ∀ x ∈ l, R64 x := fun x hx => by
  have := of_decide_eq_true ((List.all_eq_true.1 h) x hx)
  unfold R64
  omega
theorem tw1 : opT 7 3 (fl [0, 1, 1]) = (1, 0) := by kernel_rfl
theorem tw2 : opT 6 2 (fl [0, 1]) = (0, 33) := by kernel_rfl
theorem tw3 : tabT sg0 2 newN = 0 := by
  unfold tabT
  rw [if_neg (by rw [show checkG sg0 = true by kernel_rfl]; simp), if_neg (by rw [check_yes check_new]; simp), if_pos (by kernel_rfl)]
theorem few00 : FewG sg0 := ⟨by decide, by decide, by decide⟩
set_option maxHeartbeats 1000000 in
theorem wakes06_any (w : World) : Calls Try.prog 21 #[] w fun e w' => e = .returned (.bool true) ∧ Below w.heap.size w w' := by
  have hA := TOp_any 7 _ 3 (fl [0, 1, 1]) _ ⟨by decide, by decide⟩ (ints_lit w [0, 1, 1] #[.int .i64 0, .int .i64 1, .int .i64 1] 3 3 rfl rfl (small_R (by decide)) (by decide)) (lit_cap _ (by decide))
  rw [tw1] at hA
  unfold opV at hA
  have hA' := Lib.hid hA
  have hx0 := Lib.hid ((Bx.nil w).skip (.cells #[.int .i64 0, .int .i64 1, .int .i64 1] 3))
  clear hA
  go_enter Try.func21, Try.ntmps21
  go_wp2_with fail
  refine hA'.out.mono ?_
  rintro e w1 ⟨rfl, hb1⟩
  have hx1 := Lib.hid ((hx0.out.step hb1).skip (.cells #[.int .i64 0, .int .i64 1] 3))
  have hB := TOp_any 6 _ 2 (fl [0, 1]) _ ⟨by decide, by decide⟩ (ints_lit w1 [0, 1] #[.int .i64 0, .int .i64 1] 2 3 rfl rfl (small_R (by decide)) (by decide)) (lit_cap _ (by decide))
  rw [tw2] at hB
  unfold opV at hB
  have hB' := Lib.hid hB
  clear hb1 hB
  go_wp2_with fail
  refine hB'.out.mono ?_
  rintro e w2 ⟨rfl, hb2⟩
  have hx2 := Lib.hid (hx1.out.step hb2)
  clear hb2
  go_wp2_with fail
  refine (RNew_any w2).mono ?_
  rintro e w3 ⟨v, rfl, hN, hb3⟩
  have hx3 := Lib.hid (hx2.out.step hb3)
  have hT := Lib.hid (TTable_any _ _ _ v sg0 2 newN w3 (SgAt.nil w3) few00 hN (by decide))
  rw [tw3] at hT
  clear hb3 hN
  go_wp2_with fail
  refine hT.out.mono ?_
  rintro e w4 ⟨rfl, hb4⟩
  have hx4 := Lib.hid (hx3.out.step hb4)
  clear hb4
  go_wp2_with fail
  go_ret
  exact ⟨rfl, hx4.out.bel⟩
end Go.Proofs.Ythkbekfdjfmmbaa
