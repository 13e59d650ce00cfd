/- lex.white, inside, all, May, Reserved, sig.usable, Core: what they answer. -/
import Derived.Test.YthkbekfdjfmmbaaZSigMSigL
namespace Go.Proofs.Ythkbekfdjfmmbaa
open Go.RowKit
set_option maxRecDepth 100000

theorem white_any (c : Int) (w : World) : Calls Try.prog 99 #[.int .u8 c] w fun e w' => e = .returned (.bool (whI c)) ∧ w = w' := by
  go_enter Try.func99, Try.ntmps99
  go_wp2
  all_goals go_ret
  all_goals refine ⟨ret_bool ?_, rfl⟩
  all_goals (show (_ : Bool) = _; rw [Bool.eq_iff_iff]; simp [whI]; try omega)
theorem inside_any (c : Int) (w : World) : Calls Try.prog 84 #[.int .u8 c] w fun e w' => e = .returned (.bool (inI c)) ∧ w = w' := by
  go_enter Try.func84, Try.ntmps84
  go_wp2_with (go_at_call 99; refine (white_any _ _).mono ?_; rintro e w' ⟨rfl, rfl⟩)
  all_goals go_ret
  all_goals refine ⟨ret_bool ?_, rfl⟩
  all_goals (show (_ : Bool) = _; rw [Bool.eq_iff_iff]; simp [whI, inI]; try omega)
theorem Reserved_any (s : ByteArray) (w : World) : Calls Try.prog 63 #[.string s] w fun e w' => e = .returned (.bool (resS s)) ∧ w = w' := by
  go_enter Try.func63, Try.ntmps63
  go_wp2
  all_goals go_ret
  all_goals first | (exfalso; simp_all; done) | (refine ⟨ret_bool ?_, rfl⟩; simp_all [resS, isS])
theorem Core_any (s : ByteArray) (w : World) : Calls Try.prog 38 #[.string s] w fun e w' => e = .returned (.bool (coreS s)) ∧ w = w' := by
  go_enter Try.func38, Try.ntmps38
  go_wp2
  all_goals go_ret
  all_goals first | (exfalso; simp_all; done) | (refine ⟨ret_bool ?_, rfl⟩; simp_all [coreS, isS])
set_option maxHeartbeats 1000000 in
theorem all_in (s : ByteArray) (w : World) (hs : s.size ≤ 100) : Calls Try.prog 83 #[.string s, .func (.func 84) #[] #[]] w fun e w' => e = .returned (.bool (upTo s.size fun i => inB (byteAt s i))) ∧ w = w' := by
  go_enter Try.func83, Try.ntmps83
  go_wp2
  go_loopw [8] (fun i wr => ∃ j : Nat, j ≤ s.size ∧ i = .int .i64 j ∧ w = wr ∧ Hid (∀ k, k < j → inB (byteAt s k) = true)) (fun i _ => s.size - (intOf i).toNat)
  case atStart => exact ⟨0, Nat.zero_le _, rfl, rfl, fun k hk => absurd hk (Nat.not_lt_zero _)⟩
  case round =>
    obtain ⟨j, hj, rfl, rfl, hall⟩ := hrel
    by_cases hlt : j < s.size
    · have i1 : decide ((j : Int) < (s.size : Int)) = true := decide_eq_true (by omega)
      have hb : byteAt s j = s[j] := by unfold byteAt; simp [List.getD, hlt]; rfl
      cases hi : inI (s[j].toNat : Int) with
      | true =>
        have hj1 : Hid (inB (byteAt s j) = true) := by unfold Hid inB; rw [hb]; exact hi
        clear hb
        go_wp2_with (go_at_call 84; refine (inside_any _ _).mono ?_; rintro e w' ⟨rfl, rfl⟩)
        go_roundw
        case rel => exact ⟨j + 1, by omega, by go_num, trivial, fun k hk => by
          by_cases e : k = j
          · subst e; exact hj1.out
          · exact hall.out k (by omega)⟩
        case measure => simp [intOf]; omega
      | false =>
        have hno := Lib.hid (upTo_no (p := fun i => inB (byteAt s i)) hlt (by show inB (byteAt s j) = false; unfold inB; rw [hb]; exact hi))
        clear hb
        go_wp2_with (go_at_call 84; refine (inside_any _ _).mono ?_; rintro e w' ⟨rfl, rfl⟩)
        go_ret
        exact ⟨ret_bool hno.out.symm, rfl⟩
    · have i1 : decide ((j : Int) < (s.size : Int)) = false := decide_eq_false (by omega)
      have hyes := Lib.hid (upTo_yes (n := s.size) fun i hi => hall.out i (by omega))
      go_wp2
      go_ret
      exact ⟨ret_bool hyes.out.symm, rfl⟩
theorem LMay_any (s : ByteArray) (w : World) (hs : StrR s) : Calls Try.prog 62 #[.string s] w fun e w' => e = .returned (.bool (mayS s)) ∧ w = w' := by
  unfold StrR at hs
  by_cases h : s.size ≤ 100
  · have d0 : decide ((s.size : Int) ≤ 100) = true := decide_eq_true (by omega)
    have hm : Hid (mayS s = upTo s.size fun i => inB (byteAt s i)) := by unfold Hid mayS; rw [decide_eq_true h]; rfl
    have h' := Lib.hid h
    clear h
    go_enter Try.func62, Try.ntmps62
    go_wp2_with (go_at_call 83; refine (all_in _ _ h'.out).mono ?_; rintro e w' ⟨rfl, rfl⟩)
    go_ret
    exact ⟨ret_bool hm.out.symm, rfl⟩
  · have d0 : decide ((s.size : Int) ≤ 100) = false := decide_eq_false (by omega)
    have hm : Hid (mayS s = false) := by unfold Hid mayS; rw [decide_eq_false h]; rfl
    clear h
    go_enter Try.func62, Try.ntmps62
    go_wp2_with fail
    go_ret
    exact ⟨ret_bool hm.out.symm, rfl⟩
theorem usable_any (s : ByteArray) (w : World) (hs : StrR s) : Calls Try.prog 36 #[.string s] w fun e w' => e = .returned (.bool (useS s)) ∧ w = w' := by
  cases hm : mayS s with
  | true =>
    have hu : Hid (useS s = !resS s) := by unfold Hid useS; rw [hm]; rfl
    go_enter Try.func36, Try.ntmps36
    go_wp2_with (first | (go_at_call 62; refine (LMay_any _ _ hs).mono ?_; rintro e w' ⟨rfl, rfl⟩) | (go_at_call 63; refine (Reserved_any _ _).mono ?_; rintro e w' ⟨rfl, rfl⟩))
    go_ret
    exact ⟨ret_bool hu.out.symm, rfl⟩
  | false =>
    have hu : Hid (useS s = false) := by unfold Hid useS; rw [hm]; rfl
    go_enter Try.func36, Try.ntmps36
    go_wp2_with (first | (go_at_call 62; refine (LMay_any _ _ hs).mono ?_; rintro e w' ⟨rfl, rfl⟩) | (go_at_call 63; refine (Reserved_any _ _).mono ?_; rintro e w' ⟨rfl, rfl⟩))
    go_ret
    exact ⟨ret_bool hu.out.symm, rfl⟩
end Go.Proofs.Ythkbekfdjfmmbaa

namespace Go.Proofs.Ythkbekfdjfmmbaa

/-- The first place below n that p holds of; -1: none. -/
def firstI : Nat → (Nat → Bool) → Int
  | 0, _ => -1
  | n + 1, p => if firstI n p ≠ -1 then firstI n p else if p n then n else -1
theorem firstI_none {n : Nat} {p : Nat → Bool} (h : ∀ i, i < n → p i = false) : firstI n p = -1 := by
  induction n with
  | zero => rfl
  | succ n ih => rw [firstI, ih fun i hi => h i (by omega), h n (by omega)]; simp
theorem firstI_hit {n j : Nat} {p : Nat → Bool} (hj : j < n) (h : ∀ i, i < j → p i = false) (hp : p j = true) : firstI n p = j := by
  induction n with
  | zero => omega
  | succ n ih =>
    rw [firstI]
    by_cases e : j = n
    · subst e
      rw [firstI_none h, hp]; simp
    · rw [ih (by omega), if_pos (by omega)]
theorem firstI_cases (n : Nat) (p : Nat → Bool) : (firstI n p = -1 ∧ ∀ i, i < n → p i = false) ∨ ∃ j, j < n ∧ firstI n p = j ∧ p j = true ∧ ∀ i, i < j → p i = false := by
  induction n with
  | zero => exact .inl ⟨rfl, fun i hi => absurd hi (Nat.not_lt_zero _)⟩
  | succ n ih =>
    rcases ih with ⟨h1, h2⟩ | ⟨j, hj, h1, h2, h3⟩
    · cases hp : p n with
      | true => exact .inr ⟨n, by omega, by rw [firstI, h1, hp]; simp, hp, h2⟩
      | false => exact .inl ⟨by rw [firstI, h1, hp]; simp, fun i hi => by
          by_cases e : i = n
          · subst e; exact hp
          · exact h2 i (by omega)⟩
    · exact .inr ⟨j, by omega, by rw [firstI, h1, if_pos (by omega)], h2, h3⟩

def eqS (s t : ByteArray) : Bool := s.toList == t.toList
end Go.Proofs.Ythkbekfdjfmmbaa
