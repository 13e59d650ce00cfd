/- atoms.only, for the two function values it is called with. -/
import Derived.Test.YtoppfcfalciibaaArgsM
namespace Go.Proofs.Ytoppfcfalciibaa
open Go.RowKit Go.Maps
set_option maxRecDepth 100000

def filtL (p : Int → Bool) (f : Nat → Int) : Nat → List Int
  | 0 => []
  | j + 1 => if p (f j) then filtL p f j ++ [f j] else filtL p f j
theorem filtL_yes {p : Int → Bool} {f : Nat → Int} {j : Nat} (h : p (f j) = true) : filtL p f (j + 1) = filtL p f j ++ [f j] := if_pos h
theorem filtL_no {p : Int → Bool} {f : Nat → Int} {j : Nat} (h : p (f j) = false) : filtL p f (j + 1) = filtL p f j := if_neg (by rw [h]; exact Bool.false_ne_true)
theorem filtL_len (p : Int → Bool) (f : Nat → Int) : ∀ j, (filtL p f j).length ≤ j
  | 0 => Nat.le_refl _
  | j + 1 => by
    have := filtL_len p f j
    unfold filtL
    split
    · rw [List.length_append, List.length_singleton]; omega
    · omega
def OnlyPost (p : Int → Bool) (m : Nat) (f : Nat → Int) (w : World) (e : Ending) (w' : World) : Prop :=
  ∃ v, e = .returned v ∧ OwnL w' w.heap.size v (filtL p f m) ∧ Below w.heap.size w w'

set_option maxHeartbeats 4000000 in
theorem OnlyE_any (v1 v2 : Value) (u : Value) (m : Nat) (f : Nat → Int) (p : Int → Bool) (w : World) (hu : IntsAt w u m f) (hm6 : m ≤ 1000000)
    (hP : ∀ j, j < m → ∀ wr, Below w.heap.size w wr → Calls Try.prog 68 #[.int .i64 (f j), v1, v2] wr fun e w' => e = .returned (.bool (p (f j))) ∧ Below wr.heap.size wr w') :
    Calls Try.prog 67 #[u, .func (.func 68) #[] #[v1, v2]] w (OnlyPost p m f w) := by
  obtain ⟨U, cu, rfl, hm, hRu, hcu⟩ := hu
  have hcu' := Lib.hid hcu
  have hRu' := Lib.hid hRu
  have hP' := Lib.hid hP
  clear hcu hRu hP
  go_enter Try.func67, Try.ntmps67
  go_wp2
  go_loopw [4, 9] (fun z i wr => ∃ j : Nat, j ≤ m ∧ i = .int .i64 j ∧ OwnL wr w.heap.size z (filtL p f j) ∧ Below w.heap.size w wr) (fun _ i _ => m - (intOf i).toNat)
  case atStart => exact ⟨0, Nat.zero_le _, rfl, World.ownsRow_nil _ _ _ 1, Below.refl _ _⟩
  case round =>
    obtain ⟨j, hj, rfl, hown, hb⟩ := hrel
    have hown' := Lib.hid hown
    have hb' := Lib.hid hb
    have hz := hb.size
    clear hown
    by_cases hlt : j < m
    · obtain ⟨lb, lo, rfl, hlb, hcl⟩ := hcu'.out (by omega)
      have hl := (hb.cell (p := ⟨lb, lo + j, none⟩) hlb).trans (hcl j hlt)
      have hRj := hRu'.out j hlt
      have i1 : (j : Int) < (m : Int) := by omega
      clear hcl hb
      go_wp2_with fail
      refine (hP'.out j hlt wr hb'.out).mono ?_
      rintro e w2 ⟨rfl, hb2⟩
      have hown2 := Lib.hid (hown'.out.below hb2 (Nat.le_refl _))
      have hb3 := hb'.out.trans (hb2.mono hz)
      have hz2 := hb2.size
      cases hp : p (f j) with
      | true =>
        have hF := Lib.hid (filtL_yes hp)
        have hlen := filtL_len p f j
        clear hp hl
        go_wp2_with (at_builtin; refine wpList_app1 rfl rfl _ _ rfl w.heap.size _ _ (f j) rfl (hown2.out.alloc _) w2.heap.size 1 rfl ?c1 ?c2 ?c3 ?_)
        case c1 => simp
        case c2 => omega
        case c3 => simp; omega
        intro v' w4 hown4 hb4 _
        go_wp2
        go_roundw
        case rel => exact ⟨j + 1, by omega, by go_num, by rw [hF.out]; exact hown4, (hb3.alloc (by omega) _).trans hb4⟩
        case measure => simp [intOf]; omega
      | false =>
        have hF := Lib.hid (filtL_no hp)
        clear hp hl
        go_wp2
        go_roundw
        case rel => exact ⟨j + 1, by omega, by go_num, by rw [hF.out]; exact hown2.out, hb3⟩
        case measure => simp [intOf]; omega
    · obtain rfl : j = m := by omega
      go_wp2
      go_ret
      exact ⟨_, rfl, hown'.out, hb'.out⟩
set_option maxHeartbeats 4000000 in
theorem OnlyI_any (v1 : Value) (u : Value) (m : Nat) (f : Nat → Int) (p : Int → Bool) (w : World) (hu : IntsAt w u m f) (hm6 : m ≤ 1000000)
    (hP : ∀ j, j < m → ∀ wr, Below w.heap.size w wr → Calls Try.prog 69 #[.int .i64 (f j), v1] wr fun e w' => e = .returned (.bool (p (f j))) ∧ Below wr.heap.size wr w') :
    Calls Try.prog 67 #[u, .func (.func 69) #[] #[v1]] w (OnlyPost p m f w) := by
  obtain ⟨U, cu, rfl, hm, hRu, hcu⟩ := hu
  have hcu' := Lib.hid hcu
  have hRu' := Lib.hid hRu
  have hP' := Lib.hid hP
  clear hcu hRu hP
  go_enter Try.func67, Try.ntmps67
  go_wp2
  go_loopw [4, 9] (fun z i wr => ∃ j : Nat, j ≤ m ∧ i = .int .i64 j ∧ OwnL wr w.heap.size z (filtL p f j) ∧ Below w.heap.size w wr) (fun _ i _ => m - (intOf i).toNat)
  case atStart => exact ⟨0, Nat.zero_le _, rfl, World.ownsRow_nil _ _ _ 1, Below.refl _ _⟩
  case round =>
    obtain ⟨j, hj, rfl, hown, hb⟩ := hrel
    have hown' := Lib.hid hown
    have hb' := Lib.hid hb
    have hz := hb.size
    clear hown
    by_cases hlt : j < m
    · obtain ⟨lb, lo, rfl, hlb, hcl⟩ := hcu'.out (by omega)
      have hl := (hb.cell (p := ⟨lb, lo + j, none⟩) hlb).trans (hcl j hlt)
      have hRj := hRu'.out j hlt
      have i1 : (j : Int) < (m : Int) := by omega
      clear hcl hb
      go_wp2_with fail
      refine (hP'.out j hlt wr hb'.out).mono ?_
      rintro e w2 ⟨rfl, hb2⟩
      have hown2 := Lib.hid (hown'.out.below hb2 (Nat.le_refl _))
      have hb3 := hb'.out.trans (hb2.mono hz)
      have hz2 := hb2.size
      cases hp : p (f j) with
      | true =>
        have hF := Lib.hid (filtL_yes hp)
        have hlen := filtL_len p f j
        clear hp hl
        go_wp2_with (at_builtin; refine wpList_app1 rfl rfl _ _ rfl w.heap.size _ _ (f j) rfl (hown2.out.alloc _) w2.heap.size 1 rfl ?c1 ?c2 ?c3 ?_)
        case c1 => simp
        case c2 => omega
        case c3 => simp; omega
        intro v' w4 hown4 hb4 _
        go_wp2
        go_roundw
        case rel => exact ⟨j + 1, by omega, by go_num, by rw [hF.out]; exact hown4, (hb3.alloc (by omega) _).trans hb4⟩
        case measure => simp [intOf]; omega
      | false =>
        have hF := Lib.hid (filtL_no hp)
        clear hp hl
        go_wp2
        go_roundw
        case rel => exact ⟨j + 1, by omega, by go_num, by rw [hF.out]; exact hown2.out, hb3⟩
        case measure => simp [intOf]; omega
    · obtain rfl : j = m := by omega
      go_wp2
      go_ret
      exact ⟨_, rfl, hown'.out, hb'.out⟩
end Go.Proofs.Ytoppfcfalciibaa
