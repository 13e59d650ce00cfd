/- term.places. -/
import Derived.Test.YthkbekfdjfmmbaaPlaces
namespace Go.Proofs.Ythkbekfdjfmmbaa
open Go.RowKit Go.Maps

def placeN (N : Nat → Nd) : Nat → Nd → Option Int
  | 0, _ => none
  | k + 1, e => if e = N k then some (k : Int) else placeN N k e
def cntN (N : Nat → Nd) : Nat → Nat
  | 0 => 0
  | k + 1 => if (placeN N k (N k)).isSome then cntN N k else cntN N k + 1
theorem cntN_le (N : Nat → Nd) (k : Nat) : cntN N k ≤ k := by
  induction k with
  | zero => exact Nat.le_refl _
  | succ k ih => unfold cntN; split <;> omega
theorem placeN_none (N : Nat → Nd) (k : Nat) (e : Nd) : placeN N k e = none ↔ ∀ i, i < k → N i ≠ e := by
  induction k with
  | zero => simp [placeN]
  | succ k ih =>
    unfold placeN
    by_cases h : e = N k
    · rw [if_pos h]
      constructor
      · intro h'; cases h'
      · intro h'; exact absurd h.symm (h' k (by omega))
    · rw [if_neg h, ih]
      constructor
      · intro h' i hi
        by_cases ei : i = k
        · subst ei; exact fun h'' => h h''.symm
        · exact h' i (by omega)
      · exact fun h' i hi => h' i (by omega)
theorem placeN_some (N : Nat → Nd) (k : Nat) (e : Nd) (x : Int) (h : placeN N k e = some x) : ∃ i, i < k ∧ N i = e ∧ x = i := by
  induction k with
  | zero => cases h
  | succ k ih =>
    unfold placeN at h
    split at h
    · next h' => injection h with h; exact ⟨k, by omega, h'.symm, h.symm⟩
    · obtain ⟨i, h1, h2, h3⟩ := ih h
      exact ⟨i, by omega, h2, h3⟩
def OnceN (N : Nat → Nd) (n : Nat) : Prop := ∀ i j, i < j → j < n → N i ≠ N j
theorem cntN_iff (N : Nat → Nd) (k : Nat) : cntN N k = k ↔ OnceN N k := by
  induction k with
  | zero => exact ⟨fun _ i j h1 h2 => by omega, fun _ => rfl⟩
  | succ k ih =>
    have hle := cntN_le N k
    unfold cntN
    cases hp : placeN N k (N k) with
    | some x =>
      simp only [Option.isSome_some, if_true]
      constructor
      · intro h; omega
      · intro h
        obtain ⟨i, h1, h2, _⟩ := placeN_some N k _ x hp
        exact absurd h2 (h i k h1 (by omega))
    | none =>
      simp only [Option.isSome_none, Bool.false_eq_true, if_false]
      have hno := (placeN_none N k _).1 hp
      constructor
      · intro h i j h1 h2
        by_cases e : j = k
        · subst e; exact hno i h1
        · exact ih.1 (by omega) i j h1 (by omega)
      · intro h
        rw [ih.2 fun i j h1 h2 => h i j h1 (by omega)]

theorem wpList_placeN {w : World} {ops : Array Oper} {rest : List Oper} {o : Oper} {a : Act} {Q : Exit → Act → World → Prop} (hg : o.guard = none) (m x v : Operand) (hop : o.op = Op.mapUpdate 115 m x v)
    (b j : Nat) (N : Nat → Nd) (hm : a.eval m = .map (some b)) (h : PlAt w b j (placeN N j) (cntN N j)) (hj : j < 1000000) (hx : a.eval x = ndV (N j)) (hv : a.eval v = .int .i64 j) (he : NdR (N j))
    (hK : ∀ w', Hid (PlAt w' b (j + 1) (placeN N (j + 1)) (cntN N (j + 1))) → w.grownBy w' (some b) → wpList Try.prog ops Q rest (a.put o.dst undef) w') :
    wpList Try.prog ops Q (o :: rest) a w :=
  wpList_place hg m x v hop b j _ _ hm h (by unfold maxLen; omega) (N j) j hx hv he (by unfold R64; omega) fun w' h1 h2 => hK w' (h1.congr (fun f _ => by rw [placeN]) (by rw [cntN])) h2

set_option maxHeartbeats 400000 in
theorem places_any (v : Value) (n : Nat) (N : Nat → Nd) (w : World) (hv : NdsAt w v n N) (hn : n ≤ 1000000) :
    Calls Try.prog 80 #[.agg #[v]] w fun e w' => ∃ b, e = .returned (.tuple #[.map (some b), .bool (decide (cntN N n = n))]) ∧ PlAt w' b n (placeN N n) (cntN N n) ∧ w.heap.size ≤ b ∧ Below w.heap.size w w' := by
  have hmk := run_places n hn
  have hr := Lib.hid hv.ranges
  obtain ⟨A, c, rfl, _, _, hc⟩ := hv
  have hc' := Lib.hid hc
  clear hc
  go_enter Try.func80, Try.ntmps80
  go_wp2
  clear hmk
  have hb0 : Below w.heap.size w (w.alloc (.cells #[.slice A n c] 60)) := (Below.refl _ _).alloc (Nat.le_refl _) _
  go_loopw [14] (fun i wr => ∃ j : Nat, j ≤ n ∧ i = .int .i64 j ∧ Hid (PlAt wr (w.heap.size + 1) j (placeN N j) (cntN N j)) ∧ w.heap.size + 1 < wr.heap.size ∧ wr.cell? ⟨w.heap.size, 0, none⟩ = some (.slice A n c) ∧ Below w.heap.size w wr) (fun i _ => n - (intOf i).toNat)
  case atStart =>
    refine ⟨0, Nat.zero_le _, rfl, ?_, by simp, by simp, hb0.alloc (by simp) _⟩
    have := (PlAt.made (w.alloc (.cells #[.slice A n c] 60))).congr (S' := placeN N 0) (c' := cntN N 0) (fun _ _ => rfl) rfl
    unfold Hid
    simpa using this
  case round =>
    obtain ⟨j, hj, rfl, hpl, hz1, hbx, hb⟩ := hrel
    by_cases hlt : j < n
    · obtain ⟨b, o, rfl, hbl, hcs⟩ := hc'.out (by omega)
      obtain ⟨q0, q1, q2, q3, q4, q5, q6, q7⟩ := (hcs j hlt).below hb hbl
      have hR := Lib.hid (hr.out j hlt)
      clear hcs
      go_wp2_with (at_mapUpdate; refine wpList_placeN rfl _ _ _ rfl (w.heap.size + 1) j N rfl (hpl.out.alloc _) (by omega) rfl rfl hR.out ?_)
      intro w1 hp1 hg1
      have hba : Below (w.heap.size + 1) wr w1 := ((Below.refl _ _).alloc (by omega) _).grown hg1 (by simp; omega) (fun k h => by injection h with h; omega)
      have hbx1 := (hba.cell (p := ⟨w.heap.size, 0, none⟩) (Nat.lt_succ_self _)).trans hbx
      have hz2 := hba.size
      have hb1 : Below w.heap.size w w1 := hb.trans (hba.mono (Nat.le_succ _))
      clear hg1 hpl hbx q0 q1 q2 q3 q4 q5 q6 q7
      go_wp2
      go_roundw
      case rel => exact ⟨j + 1, by omega, by go_num, hp1.out, by omega, hbx1, hb1⟩
      case measure => simp [intOf]; omega
    · have hjn : j = n := by omega
      subst hjn
      have hlen : ∀ (d : Nat) (ty : TypeId), (Builtin.len_ #[115] ty #[.map (some (w.heap.size + 1))]).run Try.prog (wr.drewN d) = .ok (.int .i64 (cntN N j)) (wr.drewN d) := fun d ty => PlAt.len (w := wr.drewN d) hpl.out ty
      have hcl := cntN_le N j
      have hR : Hid (((cntN N j : Int) == (j : Int)) = decide (cntN N j = j)) := by
        unfold Hid; rw [Bool.eq_iff_iff]; simp; omega
      go_wp2
      go_quiet (fail)
      go_wp2
      go_ret2
      rw [hR.out]
      exact ⟨_, rfl, hpl.out, by omega, below_drewN hb _⟩
end Go.Proofs.Ythkbekfdjfmmbaa
