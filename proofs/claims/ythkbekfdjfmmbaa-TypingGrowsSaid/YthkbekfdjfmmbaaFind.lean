/- sig.find: the place of a name among strings, functions, macros; sig.Sort, Fun, Macro. -/
import Derived.Test.YthkbekfdjfmmbaaName
import Derived.Test.YthkbekfdjfmmbaaBoxes
import Derived.BigQuiet
import Derived.Deep.QuietTactic
import Derived.Deep.RegionHeld3
namespace Go.Proofs.Ythkbekfdjfmmbaa
open Go.RowKit
set_option maxRecDepth 100000

/-- The first place below n that p holds of; -1: none. -/
def firstI : Nat → (Nat → Bool) → Int
  | 0, _ => -1
  | n + 1, p => if firstI n p ≠ -1 then firstI n p else if p n then n else -1
theorem firstI_none {n : Nat} {p : Nat → Bool} (h : ∀ i, i < n → p i = false) : firstI n p = -1 := by
  induction n with
  | zero => rfl
  | succ n ih => rw [firstI, ih fun i hi => h i (by omega), h n (by omega)]; simp
theorem firstI_hit {n j : Nat} {p : Nat → Bool} (hj : j < n) (h : ∀ i, i < j → p i = false) (hp : p j = true) : firstI n p = j := by
  induction n with
  | zero => omega
  | succ n ih =>
    rw [firstI]
    by_cases e : j = n
    · subst e
      rw [firstI_none h, hp]; simp
    · rw [ih (by omega), if_pos (by omega)]
theorem firstI_cases (n : Nat) (p : Nat → Bool) : (firstI n p = -1 ∧ ∀ i, i < n → p i = false) ∨ ∃ j, j < n ∧ firstI n p = j ∧ p j = true ∧ ∀ i, i < j → p i = false := by
  induction n with
  | zero => exact .inl ⟨rfl, fun i hi => absurd hi (Nat.not_lt_zero _)⟩
  | succ n ih =>
    rcases ih with ⟨h1, h2⟩ | ⟨j, hj, h1, h2, h3⟩
    · cases hp : p n with
      | true => exact .inr ⟨n, by omega, by rw [firstI, h1, hp]; simp, hp, h2⟩
      | false => exact .inl ⟨by rw [firstI, h1, hp]; simp, fun i hi => by
          by_cases e : i = n
          · subst e; exact hp
          · exact h2 i (by omega)⟩
    · exact .inr ⟨j, by omega, by rw [firstI, h1, if_pos (by omega)], h2, h3⟩

def eqS (s t : ByteArray) : Bool := s.toList == t.toList
theorem cls_str (Bo Bn : Nat) (x name : ByteArray) (w : World) (h1 : w.cell? ⟨Bo, 0, none⟩ = some (.func (.func 42) #[] #[])) (h2 : w.cell? ⟨Bn, 0, none⟩ = some (.string name)) :
    Calls Try.prog 69 #[.string x, .pointer (some ⟨Bo, 0, none⟩), .pointer (some ⟨Bn, 0, none⟩)] w fun e w' => e = .returned (.bool (eqS x name)) ∧ Below w.heap.size w w' := by
  have hown : ∀ (s : ByteArray) (W : World), Calls Try.prog 42 #[.string s] W fun e w' => e = .returned (.string s) ∧ w' = W := fun s W => by
    go_enter Try.func42, Try.ntmps42
    go_wp2
    go_ret
    exact ⟨rfl, rfl⟩
  have hown' := Lib.hid hown
  clear hown
  go_enter Try.func69, Try.ntmps69
  go_wp2
  go_quiet ((go_at_call 42; exact Calls.quiet_of_same (hown'.out _ _)))
  go_wp2
  go_ret
  exact ⟨rfl, below_drewN (Below.refl _ _) _⟩
theorem cls_fun (Bo Bn : Nat) (f : Fn) (name : ByteArray) (w : World) (h1 : w.cell? ⟨Bo, 0, none⟩ = some (.func (.func 47) #[] #[])) (h2 : w.cell? ⟨Bn, 0, none⟩ = some (.string name)) (hb : Bo < w.heap.size) (hb2 : Bn < w.heap.size) :
    Calls Try.prog 72 #[fnV f, .pointer (some ⟨Bo, 0, none⟩), .pointer (some ⟨Bn, 0, none⟩)] w fun e w' => e = .returned (.bool (eqS f.name name)) ∧ Below w.heap.size w w' := by
  have hown : ∀ (s : Fn) (W : World), Calls Try.prog 47 #[fnV s] W fun e w' => e = .returned (.string s.name) ∧ Below W.heap.size W w' := fun s W => by
    unfold fnV
    go_enter Try.func47, Try.ntmps47
    go_wp2
    go_ret
    exact ⟨rfl, (Below.refl _ _).alloc (Nat.le_refl _) _⟩
  have hown' := Lib.hid hown
  clear hown
  unfold fnV at *
  obtain ⟨W1, hW1⟩ : ∃ W1, W1 = w.alloc (.cells #[.string f.name, .int .i64 f.len, .int .i64 f.a0, .int .i64 f.a1, .int .i64 f.a2, .int .i64 f.res] 29) := ⟨_, rfl⟩
  have hbw : Below w.heap.size w W1 := by rw [hW1]; exact (Below.refl _ _).alloc (Nat.le_refl _) _
  have hx := ((Bx.nil w).row #[.string f.name, .int .i64 f.len, .int .i64 f.a0, .int .i64 f.a1, .int .i64 f.a2, .int .i64 f.res] 29).cells
  rw [← hW1] at hx
  obtain ⟨⟨x0, xb⟩, ⟨x1, _⟩, ⟨x2, _⟩, ⟨x3, _⟩, ⟨x4, _⟩, ⟨x5, _⟩, _⟩ := hx
  have y1 := (hbw.cell (p := ⟨Bo, 0, none⟩) hb).trans h1
  have y2 := (hbw.cell (p := ⟨Bn, 0, none⟩) hb2).trans h2
  have hsz := hbw.size
  have hKp : ∀ {x : World}, Below W1.heap.size W1 x → (x.cell? ⟨Bo, 0, none⟩ = some (.func (.func 47) #[] #[]) ∧ x.cell? ⟨Bn, 0, none⟩ = some (.string name) ∧
      x.cell? ⟨w.heap.size, 0, none⟩ = some (.string f.name) ∧ x.cell? ⟨w.heap.size, 1, none⟩ = some (.int .i64 f.len) ∧ x.cell? ⟨w.heap.size, 2, none⟩ = some (.int .i64 f.a0) ∧ x.cell? ⟨w.heap.size, 3, none⟩ = some (.int .i64 f.a1) ∧ x.cell? ⟨w.heap.size, 4, none⟩ = some (.int .i64 f.a2) ∧ x.cell? ⟨w.heap.size, 5, none⟩ = some (.int .i64 f.res)) := fun h =>
    ⟨(h.cell (p := ⟨Bo, 0, none⟩) (Nat.lt_of_lt_of_le hb hsz)).trans y1, (h.cell (p := ⟨Bn, 0, none⟩) (Nat.lt_of_lt_of_le hb2 hsz)).trans y2, (h.cell (p := ⟨w.heap.size, 0, none⟩) xb).trans x0, (h.cell (p := ⟨w.heap.size, 1, none⟩) xb).trans x1, (h.cell (p := ⟨w.heap.size, 2, none⟩) xb).trans x2, (h.cell (p := ⟨w.heap.size, 3, none⟩) xb).trans x3, (h.cell (p := ⟨w.heap.size, 4, none⟩) xb).trans x4, (h.cell (p := ⟨w.heap.size, 5, none⟩) xb).trans x5⟩
  have hb0 : Below W1.heap.size W1 W1.drew := (Below.refl _ _).drew
  have hcal := Lib.hid (hown'.out f W1.drew)
  have hW1' := Lib.hid hW1
  have hbw' := Lib.hid hbw
  clear hW1 x0 x1 x2 x3 x4 x5 y1 y2 hown' h1 h2 hsz hbw
  go_enter Try.func72, Try.ntmps72
  go_wp2
  rw [← hW1'.out]
  go_region_held3 (fun x => x.cell? ⟨Bo, 0, none⟩ = some (.func (.func 47) #[] #[]) ∧ x.cell? ⟨Bn, 0, none⟩ = some (.string name) ∧
      x.cell? ⟨w.heap.size, 0, none⟩ = some (.string f.name) ∧ x.cell? ⟨w.heap.size, 1, none⟩ = some (.int .i64 f.len) ∧ x.cell? ⟨w.heap.size, 2, none⟩ = some (.int .i64 f.a0) ∧ x.cell? ⟨w.heap.size, 3, none⟩ = some (.int .i64 f.a1) ∧ x.cell? ⟨w.heap.size, 4, none⟩ = some (.int .i64 f.a2) ∧ x.cell? ⟨w.heap.size, 5, none⟩ = some (.int .i64 f.res))
    (first | exact hKp hb0 | exact hKp hb7 | fail)
    (first | (go_at_call 47; (with_reducible refine hcal.out.mono ?_); rintro e w7 ⟨rfl, hb7⟩; replace hb7 := hb0.trans hb7) | fail)
  all_goals go_wp2
  all_goals go_ret
  all_goals exact ⟨rfl, hbw'.out.trans (hb7.mono hbw'.out.size)⟩
theorem cls_mac (Bo Bn : Nat) (nm : ByteArray) (v1 v2 v3 v4 v5 : Value) (name : ByteArray) (w : World) (h1 : w.cell? ⟨Bo, 0, none⟩ = some (.func (.func 65) #[] #[])) (h2 : w.cell? ⟨Bn, 0, none⟩ = some (.string name)) (hb : Bo < w.heap.size) (hb2 : Bn < w.heap.size) :
    Calls Try.prog 86 #[.agg #[.string nm, v1, v2, v3, v4, v5], .pointer (some ⟨Bo, 0, none⟩), .pointer (some ⟨Bn, 0, none⟩)] w fun e w' => e = .returned (.bool (eqS nm name)) ∧ Below w.heap.size w w' := by
  have hown : ∀ (W : World), Calls Try.prog 65 #[.agg #[.string nm, v1, v2, v3, v4, v5]] W fun e w' => e = .returned (.string nm) ∧ Below W.heap.size W w' := fun W => by
    go_enter Try.func65, Try.ntmps65
    go_wp2
    go_ret
    exact ⟨rfl, (Below.refl _ _).alloc (Nat.le_refl _) _⟩
  have hown' := Lib.hid hown
  clear hown
  obtain ⟨W1, hW1⟩ : ∃ W1, W1 = w.alloc (.cells #[.string nm, v1, v2, v3, v4, v5] 44) := ⟨_, rfl⟩
  have hbw : Below w.heap.size w W1 := by rw [hW1]; exact (Below.refl _ _).alloc (Nat.le_refl _) _
  have hx := ((Bx.nil w).row #[.string nm, v1, v2, v3, v4, v5] 44).cells
  rw [← hW1] at hx
  obtain ⟨⟨x0, xb⟩, ⟨x1, _⟩, ⟨x2, _⟩, ⟨x3, _⟩, ⟨x4, _⟩, ⟨x5, _⟩, _⟩ := hx
  have y1 := (hbw.cell (p := ⟨Bo, 0, none⟩) hb).trans h1
  have y2 := (hbw.cell (p := ⟨Bn, 0, none⟩) hb2).trans h2
  have hsz := hbw.size
  have hKp : ∀ {x : World}, Below W1.heap.size W1 x → (x.cell? ⟨Bo, 0, none⟩ = some (.func (.func 65) #[] #[]) ∧ x.cell? ⟨Bn, 0, none⟩ = some (.string name) ∧
      x.cell? ⟨w.heap.size, 0, none⟩ = some (.string nm) ∧ x.cell? ⟨w.heap.size, 1, none⟩ = some (v1) ∧ x.cell? ⟨w.heap.size, 2, none⟩ = some (v2) ∧ x.cell? ⟨w.heap.size, 3, none⟩ = some (v3) ∧ x.cell? ⟨w.heap.size, 4, none⟩ = some (v4) ∧ x.cell? ⟨w.heap.size, 5, none⟩ = some (v5)) := fun h =>
    ⟨(h.cell (p := ⟨Bo, 0, none⟩) (Nat.lt_of_lt_of_le hb hsz)).trans y1, (h.cell (p := ⟨Bn, 0, none⟩) (Nat.lt_of_lt_of_le hb2 hsz)).trans y2, (h.cell (p := ⟨w.heap.size, 0, none⟩) xb).trans x0, (h.cell (p := ⟨w.heap.size, 1, none⟩) xb).trans x1, (h.cell (p := ⟨w.heap.size, 2, none⟩) xb).trans x2, (h.cell (p := ⟨w.heap.size, 3, none⟩) xb).trans x3, (h.cell (p := ⟨w.heap.size, 4, none⟩) xb).trans x4, (h.cell (p := ⟨w.heap.size, 5, none⟩) xb).trans x5⟩
  have hb0 : Below W1.heap.size W1 W1.drew := (Below.refl _ _).drew
  have hcal := Lib.hid (hown'.out W1.drew)
  have hW1' := Lib.hid hW1
  have hbw' := Lib.hid hbw
  clear hW1 x0 x1 x2 x3 x4 x5 y1 y2 hown' h1 h2 hsz hbw
  go_enter Try.func86, Try.ntmps86
  go_wp2
  rw [← hW1'.out]
  go_region_held3 (fun x => x.cell? ⟨Bo, 0, none⟩ = some (.func (.func 65) #[] #[]) ∧ x.cell? ⟨Bn, 0, none⟩ = some (.string name) ∧
      x.cell? ⟨w.heap.size, 0, none⟩ = some (.string nm) ∧ x.cell? ⟨w.heap.size, 1, none⟩ = some (v1) ∧ x.cell? ⟨w.heap.size, 2, none⟩ = some (v2) ∧ x.cell? ⟨w.heap.size, 3, none⟩ = some (v3) ∧ x.cell? ⟨w.heap.size, 4, none⟩ = some (v4) ∧ x.cell? ⟨w.heap.size, 5, none⟩ = some (v5))
    (first | exact hKp hb0 | exact hKp hb7 | fail)
    (first | (go_at_call 65; (with_reducible refine hcal.out.mono ?_); rintro e w7 ⟨rfl, hb7⟩; replace hb7 := hb0.trans hb7) | fail)
  all_goals go_wp2
  all_goals go_ret
  all_goals exact ⟨rfl, hbw'.out.trans (hb7.mono hbw'.out.size)⟩
def findV (r : Int) : Value := .tuple #[.int .i64 (max r 0), .bool (decide (0 ≤ r))]
set_option maxHeartbeats 1000000 in
theorem idx_str (v : Value) (n : Nat) (X : Nat → ByteArray) (Bo Bn : Nat) (name : ByteArray) (w : World) (hv : StrsAt w v n X) (h1 : w.cell? ⟨Bo, 0, none⟩ = some (.func (.func 42) #[] #[])) (h2 : w.cell? ⟨Bn, 0, none⟩ = some (.string name)) (hb : Bo < w.heap.size) (hb2 : Bn < w.heap.size) :
    Calls Try.prog 68 #[v, .func (.func 69) #[] #[.pointer (some ⟨Bo, 0, none⟩), .pointer (some ⟨Bn, 0, none⟩)]] w fun e w' => e = .returned (.int .i64 (firstI n fun i => eqS (X i) name)) ∧ Below w.heap.size w w' := by
  have hv' := Lib.hid hv
  obtain ⟨A, c, rfl, ⟨hn, hc⟩, _⟩ := hv
  have h1' := Lib.hid h1
  have h2' := Lib.hid h2
  clear h1 h2
  go_enter Try.func68, Try.ntmps68
  go_wp2_with fail
  go_loopw [5, 8] (fun _ i wr => ∃ j : Nat, j ≤ n ∧ i = .int .i64 j ∧ Hid (∀ k, k < j → eqS (X k) name = false) ∧ Hid (Below w.heap.size w wr)) (fun _ i _ => n - (intOf i).toNat)
  case atStart => exact ⟨0, Nat.zero_le _, rfl, fun k hk => absurd hk (Nat.not_lt_zero _), Below.refl _ _⟩
  case round =>
    obtain ⟨j, hj, rfl, hall, hbr⟩ := hrel
    by_cases hlt : j < n
    · have i1 : decide ((j : Int) < (n : Int)) = true := decide_eq_true (by omega)
      obtain ⟨_, _, e, _, hcs⟩ := hv'.out.below hbr.out
      injection e with e1 _ e3
      subst e1; subst e3
      obtain ⟨b, o, rfl, hbl, hcs⟩ := hcs (by omega)
      have cj := (hcs j hlt).1
      rw [Nat.mul_one] at cj
      clear hcs
      have y1 := (hbr.out.cell (p := ⟨Bo, 0, none⟩) hb).trans h1'.out
      have y2 := (hbr.out.cell (p := ⟨Bn, 0, none⟩) hb2).trans h2'.out
      have hsz := hbr.out.size
      have hcl := Lib.hid (cls_str Bo Bn (X j) name wr y1 y2)
      clear y1 y2
      cases hq : eqS (X j) name with
      | true =>
        have hF := Lib.hid (firstI_hit (p := fun i => eqS (X i) name) hlt hall.out hq)
        go_wp2_with (go_at_call 69; (with_reducible refine hcl.out.mono ?_); rintro e w2 ⟨rfl, hb2'⟩)
        go_ret
        exact ⟨ret_int hF.out.symm, hbr.out.trans (hb2'.mono hsz)⟩
      | false =>
        have hq' := Lib.hid hq
        go_wp2_with (go_at_call 69; (with_reducible refine hcl.out.mono ?_); rintro e w2 ⟨rfl, hb2'⟩)
        go_roundw
        case rel => exact ⟨j + 1, by omega, by go_num, fun k hk => by
          by_cases e : k = j
          · subst e; exact hq'.out
          · exact hall.out k (by omega), hbr.out.trans (hb2'.mono hsz)⟩
        case measure => simp [intOf]; omega
    · have i1 : decide ((j : Int) < (n : Int)) = false := decide_eq_false (by omega)
      have hF := Lib.hid (firstI_none (n := n) (p := fun i => eqS (X i) name) fun i hi => hall.out i (by omega))
      go_wp2_with fail
      go_ret
      exact ⟨ret_int hF.out.symm, hbr.out⟩
theorem find_str (v : Value) (n : Nat) (X : Nat → ByteArray) (name : ByteArray) (w : World) (hv : StrsAt w v n X) :
    Calls Try.prog 41 #[v, .func (.func 42) #[] #[], .string name] w fun e w' => e = .returned (findV (firstI n fun i => eqS (X i) name)) ∧ Below w.heap.size w w' := by
  have hmf : ∀ (fn : Go.Fn) (first cap : Array Value) (w : World), (Instr.makeFunc fn first cap).run Try.prog w = .ok (.func fn first cap) w := fun _ _ _ _ => rfl
  have hx := ((Bx.nil w).one (.func (.func 42) #[] #[]) 78).one (.string name) 9
  obtain ⟨⟨k1, k2⟩, ⟨k3, k4⟩, _⟩ := hx.cells
  have hv' := hv.below hx.bel
  simp only [World.size_alloc] at k1 k2
  have hI := Lib.hid (idx_str v n X _ _ name _ hv' k3 k1 k4 (by simp))
  have hbw := Lib.hid hx.bel
  clear k1 k2 k3 k4 hx
  generalize (firstI n fun i => eqS (X i) name) = r at *
  go_enter Try.func41, Try.ntmps41
  go_wp2_with fail
  refine hI.out.mono ?_
  rintro e w2 ⟨rfl, hb2⟩
  by_cases hr : 0 ≤ r
  · have hF : Hid (findV r = .tuple #[.int .i64 r, .bool true]) := by unfold Hid findV; rw [Int.max_eq_left hr, decide_eq_true hr]
    go_wp2
    go_ret2
    exact ⟨by rw [hF.out]; rfl, hbw.out.trans (hb2.mono hbw.out.size)⟩
  · have hF : Hid (findV r = .tuple #[.int .i64 0, .bool false]) := by unfold Hid findV; rw [Int.max_eq_right (by omega), decide_eq_false hr]
    have d0 : decide (0 ≤ r) = false := decide_eq_false hr
    have hr2 : r < 0 := by omega
    clear hr
    go_wp2
    go_ret2
    exact ⟨by rw [hF.out]; rfl, hbw.out.trans (hb2.mono hbw.out.size)⟩
end Go.Proofs.Ythkbekfdjfmmbaa
