/- gantryref02.white, within, May, Reserved, Sign; gantryref04.Core; gantryref03.key: what they answer. -/
import Derived.Test.YtofcjpfbbeamnaaZSigWSigN
import Derived.Deep.CutRange
namespace Go.Proofs.Ytofcjpfbbeamnaa
open Go.RowKit
set_option maxRecDepth 100000

theorem rwhite_any (c : Int) (w : World) : Calls Try.prog 113 #[.int .u8 c] w fun e w' => e = .returned (.bool (whI c)) ∧ w = w' := by
  go_enter Try.func113, Try.ntmps113
  go_wp2
  all_goals go_ret
  all_goals refine ⟨ret_bool ?_, rfl⟩
  all_goals (show (_ : Bool) = _; rw [Bool.eq_iff_iff]; simp [whI]; try omega)
theorem rwithin_any (c : Int) (w : World) : Calls Try.prog 109 #[.int .u8 c] w fun e w' => e = .returned (.bool (inI c)) ∧ w = w' := by
  go_enter Try.func109, Try.ntmps109
  go_wp2_with (go_at_call 113; refine (rwhite_any _ _).mono ?_; rintro e w' ⟨rfl, rfl⟩)
  all_goals go_ret
  all_goals refine ⟨ret_bool ?_, rfl⟩
  all_goals (show (_ : Bool) = _; rw [Bool.eq_iff_iff]; simp [whI, inI]; try omega)
theorem RReserved_any (s : ByteArray) (w : World) : Calls Try.prog 100 #[.string s] w fun e w' => e = .returned (.bool (resS s)) ∧ w = w' := by
  go_enter Try.func100, Try.ntmps100
  go_wp2
  all_goals go_ret
  all_goals first | (exfalso; simp_all; done) | (refine ⟨ret_bool ?_, rfl⟩; simp_all [resS, isS])
theorem RCore_any (s : ByteArray) (w : World) : Calls Try.prog 104 #[.string s] w fun e w' => e = .returned (.bool (coreS s)) ∧ w = w' := by
  go_enter Try.func104, Try.ntmps104
  go_wp2
  all_goals go_ret
  all_goals first | (exfalso; simp_all; done) | (refine ⟨ret_bool ?_, rfl⟩; simp_all [coreS, isS])
set_option maxHeartbeats 1000000 in
theorem RNMay_any (s : ByteArray) (w : World) (hs : StrR s) : Calls Try.prog 99 #[.string s] w fun e w' => e = .returned (.bool (mayS s)) ∧ w = w' := by
  unfold StrR at hs
  by_cases h : s.size ≤ 100
  · have d0 : decide ((100 : Int) < (s.size : Int)) = false := decide_eq_false (by omega)
    have hm : Hid (mayS s = upTo s.size fun i => inB (byteAt s i)) := by unfold Hid mayS; rw [decide_eq_true h]; rfl
    clear h
    go_enter Try.func99, Try.ntmps99
    go_wp2_with fail
    go_loopw [3] (fun i wr => ∃ j : Nat, j ≤ s.size ∧ i = .int .i64 j ∧ w = wr ∧ Hid (∀ k, k < j → inB (byteAt s k) = true)) (fun i _ => s.size - (intOf i).toNat)
    case atStart => exact ⟨0, Nat.zero_le _, rfl, rfl, fun k hk => absurd hk (Nat.not_lt_zero _)⟩
    case round =>
      obtain ⟨j, hj, rfl, rfl, hall⟩ := hrel
      by_cases hlt : j < s.size
      · have i1 : decide ((j : Int) < (s.size : Int)) = true := decide_eq_true (by omega)
        have hb : byteAt s j = s[j] := by unfold byteAt; simp [List.getD, hlt]; rfl
        cases hi : inI (s[j].toNat : Int) with
        | true =>
          have hj1 : Hid (inB (byteAt s j) = true) := by unfold Hid inB; rw [hb]; exact hi
          clear hb
          go_wp2_with (go_at_call 109; refine (rwithin_any _ _).mono ?_; rintro e w' ⟨rfl, rfl⟩)
          go_roundw
          case rel => exact ⟨j + 1, by omega, by go_num, trivial, fun k hk => by
            by_cases e : k = j
            · subst e; exact hj1.out
            · exact hall.out k (by omega)⟩
          case measure => simp [intOf]; omega
        | false =>
          have hno := Lib.hid (upTo_no (p := fun i => inB (byteAt s i)) hlt (by show inB (byteAt s j) = false; unfold inB; rw [hb]; exact hi))
          clear hb
          go_wp2_with (go_at_call 109; refine (rwithin_any _ _).mono ?_; rintro e w' ⟨rfl, rfl⟩)
          go_ret
          exact ⟨by rw [hm.out, hno.out]; rfl, rfl⟩
      · have i1 : decide ((j : Int) < (s.size : Int)) = false := decide_eq_false (by omega)
        have hyes := Lib.hid (upTo_yes (n := s.size) fun i hi => hall.out i (by omega))
        go_wp2_with fail
        go_ret
        exact ⟨by rw [hm.out, hyes.out]; rfl, rfl⟩
  · have d0 : decide ((100 : Int) < (s.size : Int)) = true := decide_eq_true (by omega)
    have hm : Hid (mayS s = false) := by unfold Hid mayS; rw [decide_eq_false h]; rfl
    clear h
    go_enter Try.func99, Try.ntmps99
    go_wp2_with fail
    go_ret
    exact ⟨ret_bool hm.out.symm, rfl⟩
def someB : List Nat := [126, 33, 64, 36, 37, 94, 38, 42, 95, 45, 43, 61, 60, 62, 46, 63, 47]
def someS : ByteArray := ⟨#[126, 33, 64, 36, 37, 94, 38, 42, 95, 45, 43, 61, 60, 62, 46, 63, 47]⟩
def rngB (n : Nat) : Bool := decide (65 ≤ n ∧ n ≤ 90) || decide (97 ≤ n ∧ n ≤ 122) || decide (48 ≤ n ∧ n ≤ 57)
theorem some_size : someS.size = 17 := rfl
theorem some_get : ∀ j : Fin 17, (byteAt someS j.val).toNat = someB.getD j.val 0 := by decide +kernel
theorem sign_eq (c : UInt8) : signB c = (rngB c.toNat || someB.contains c.toNat) := rfl
theorem some_no {n : Nat} (h : ∀ k, k < 17 → someB.getD k 0 ≠ n) : someB.contains n = false := by
  cases hq : someB.contains n with
  | false => rfl
  | true =>
    have hm : n ∈ someB := List.contains_iff_mem.1 hq
    obtain ⟨i, hi, rfl⟩ := List.mem_iff_getElem.1 hm
    have hi' : i < 17 := hi
    have := h i hi'
    rw [List.getD_eq_getElem?_getD, List.getElem?_eq_getElem hi] at this
    exact absurd rfl this
theorem some_yes {n k : Nat} (hk : k < 17) (h : someB.getD k 0 = n) : someB.contains n = true := by
  have hk' : k < someB.length := hk
  rw [List.getD_eq_getElem?_getD, List.getElem?_eq_getElem hk'] at h
  exact List.contains_iff_mem.2 (h ▸ List.getElem_mem hk')
set_option maxHeartbeats 1000000 in
theorem RSign_any (c : UInt8) (w : World) : Calls Try.prog 116 #[.int .u8 c.toNat] w fun e w' => e = .returned (.bool (signB c)) ∧ w = w' := by
  have hR := Lib.hid (sign_eq c)
  generalize hn : c.toNat = n at *
  have hn' := Lib.hid hn
  clear hn
  go_enter Try.func116, Try.ntmps116
  rw [show (⟨#[126, 33, 64, 36, 37, 94, 38, 42, 95, 45, 43, 61, 60, 62, 46, 63, 47]⟩ : ByteArray) = someS from rfl]
  have hsz : Hid (someS.size = 17) := some_size
  have hget := Lib.hid fun j (h : j < 17) => some_get ⟨j, h⟩
  generalize someS = S at *
  go_upto_region 1 with fail
  go_cut [25] from 4 to 25 (fun u x => u = .bool (rngB n) ∧ x = w)
  case first =>
    go_wp2
    all_goals go_meet
    all_goals refine ⟨?_, rfl⟩
    all_goals unfold rngB
    all_goals (refine congrArg Value.bool ?_; rw [Bool.eq_iff_iff]; simp; try omega)
  case rest =>
    obtain ⟨rfl, rfl⟩ := hcut
    cases hr : rngB n with
    | true =>
      have hF : Hid (signB c = true) := by unfold Hid; rw [hR.out, hr]; rfl
      clear hr
      go_wp2_with fail
      go_ret
      exact ⟨by rw [hF.out]; rfl, rfl⟩
    | false =>
      have hR2 : Hid (signB c = someB.contains n) := by unfold Hid; rw [hR.out, hr]; rfl
      clear hr
      go_wp2_with fail
      go_loopw [3] (fun i wr => ∃ j : Nat, j ≤ 17 ∧ i = .int .i64 j ∧ wr = wc ∧ Hid (∀ k, k < j → someB.getD k 0 ≠ n)) (fun i _ => 17 - (intOf i).toNat)
      case atStart => exact ⟨0, Nat.zero_le _, rfl, rfl, fun k hk => absurd hk (Nat.not_lt_zero _)⟩
      case round =>
        obtain ⟨j, hj, rfl, rfl, hall⟩ := hrel
        by_cases hlt : j < 17
        · have i1 : decide ((j : Int) < 17) = true := decide_eq_true (by omega)
          have hjs : j < S.size := by rw [hsz.out]; exact hlt
          have hjI : (j : Int) < (S.size : Int) := by omega
          have hj0 : (0 : Int) ≤ (j : Int) := by omega
          have hb : byteAt S j = S[j] := by unfold byteAt; simp [List.getD, hjs]; rfl
          have hg := Lib.hid ((congrArg UInt8.toNat hb).symm.trans (hget.out j hlt))
          clear hb
          by_cases he : someB.getD j 0 = n
          · have hF : Hid (signB c = true) := by unfold Hid; rw [hR2.out, some_yes hlt he]
            have e1 : ((S[j].toNat : Int) == (n : Int)) = true := by simp; rw [hg.out, he]
            clear he
            go_wp2_with fail
            go_ret
            exact ⟨by rw [hF.out]; rfl, rfl⟩
          · have e1 : ((S[j].toNat : Int) == (n : Int)) = false := by simp; rw [hg.out]; omega
            have he' := Lib.hid he
            clear he
            go_wp2_with fail
            go_roundw
            case rel => exact ⟨j + 1, by omega, by go_num, trivial, fun k hk => by
              by_cases e : k = j
              · subst e; exact he'.out
              · exact hall.out k (by omega)⟩
            case measure => simp [intOf]; omega
        · have i1 : decide ((j : Int) < 17) = false := decide_eq_false (by omega)
          have hF : Hid (signB c = false) := by unfold Hid; rw [hR2.out, some_no fun k hk => hall.out k (by omega)]
          go_wp2_with fail
          go_ret
          exact ⟨by rw [hF.out]; rfl, rfl⟩
end Go.Proofs.Ytofcjpfbbeamnaa

namespace Go.Proofs.Ytofcjpfbbeamnaa
open Go.RowKit
set_option maxRecDepth 100000

theorem empty_size (s : ByteArray) : s.toList.isEmpty = decide (s.size = 0) := isEmpty_size s
theorem numS_of {s : ByteArray} (h0 : s.size ≠ 0) (h1 : ¬ (1 < s.size ∧ (byteAt s 0).toNat = 48)) (h2 : ∀ i, i < s.size → digB (byteAt s i) = true) : numS s = true := by
  unfold numS
  rw [decide_eq_true h0, upTo_yes h2]
  by_cases h : 1 < s.size
  · rw [decide_eq_true h, decide_eq_false (fun e => h1 ⟨h, e⟩)]; rfl
  · rw [decide_eq_false h]; rfl
theorem numS_bad {s : ByteArray} (h : s.size = 0 ∨ 1 < s.size ∧ (byteAt s 0).toNat = 48) : numS s = false := by
  unfold numS
  rcases h with h | ⟨h, h'⟩
  · rw [decide_eq_false (fun e => e h)]; rfl
  · rw [decide_eq_true h, decide_eq_true h']; simp
set_option maxHeartbeats 1000000 in
theorem rparse_any (s : ByteArray) (w : World) (hs : StrR s) : Calls Try.prog 114 #[.string s] w fun e w' => ParsedP s e ∧ w = w' := by
  unfold StrR at hs
  have hE := empty_size s
  go_enter Try.func114, Try.ntmps114
  by_cases h0 : s.size = 0
  · have hF := Lib.hid (numS_bad (.inl h0))
    go_wp2_with fail
    go_ret2
    exact ⟨⟨0, 20, rfl, hF.out.symm⟩, rfl⟩
  have hlt : 0 < s.size := by omega
  have h00 : decide (s.size = 0) = false := decide_eq_false h0
  have hne : ¬ s = ByteArray.empty := fun e => h0 (by rw [e]; rfl)
  have e0 : s.toList.isEmpty = false := by rw [hE]; exact h00
  have hg0 := byteAt_get s 0 hlt
  by_cases hz : 1 < s.size ∧ (byteAt s 0).toNat = 48
  · have hF := Lib.hid (numS_bad (.inr hz))
    obtain ⟨hz1, hz2⟩ := hz
    have d1 : decide (1 < (s.size : Int)) = true := decide_eq_true (by omega)
    have d1n : decide (1 < s.size) = true := decide_eq_true hz1
    have b1 : ((s[0].toNat : Int) == 48) = true := by rw [hg0] at hz2; simp; omega
    clear hz1 hz2 h0 hg0
    go_wp2_with fail
    go_ret2
    exact ⟨⟨0, 20, rfl, hF.out.symm⟩, rfl⟩
  have hcond : Hid (((s[0].toNat : Int) == 48 && decide (1 < (s.size : Int))) = false) := by
    unfold Hid
    by_cases g : 1 < s.size
    · have : ¬ (byteAt s 0).toNat = 48 := fun h => hz ⟨g, h⟩
      rw [hg0] at this
      rw [show ((s[0].toNat : Int) == 48) = false by simp; omega]; rfl
    · rw [decide_eq_false (by omega : ¬ 1 < (s.size : Int))]; simp
  have hno := Lib.hid fun i (hi : i < s.size) h => numS_no hi h
  have hyes := Lib.hid fun h => numS_of h0 hz h
  have hrest : ∀ q1 q2 : Bool, ((s[0].toNat : Int) == 48) = q1 → decide (1 < (s.size : Int)) = q2 → (q1 && q2) = false → True := fun _ _ _ _ _ => trivial
  clear hrest hz h0 hg0
  go_upto_region 1 with fail
  go_cut [19] from 8 to 19 (fun u x => u = .bool false ∧ x = w)
  case first =>
    cases hq1 : ((s[0].toNat : Int) == 48) with
    | false =>
      go_wp2
      go_meet
      exact ⟨rfl, rfl⟩
    | true =>
      have hq2 : decide (1 < (s.size : Int)) = false := by have := hcond.out; rw [hq1, Bool.true_and] at this; exact this
      have hq3 : decide (1 < s.size) = false := by rw [decide_eq_false_iff_not] at hq2 ⊢; omega
      go_wp2
      go_meet
      exact ⟨rfl, rfl⟩
  case rest =>
  obtain ⟨rfl, rfl⟩ := hcut
  clear hcond
  go_wp2_with fail
  go_loopw [4] (fun i wr => ∃ j : Nat, j ≤ s.size ∧ i = .int .i64 j ∧ wr = wc ∧ Hid (∀ k, k < j → digB (byteAt s k) = true)) (fun i _ => s.size - (intOf i).toNat)
  case atStart => exact ⟨0, Nat.zero_le _, rfl, rfl, fun k hk => absurd hk (Nat.not_lt_zero _)⟩
  case round =>
    obtain ⟨j, hj, rfl, rfl, hall⟩ := hrel
    by_cases hltj : j < s.size
    · have i1 : decide ((j : Int) < (s.size : Int)) = true := decide_eq_true (by omega)
      have hgj := byteAt_get s j hltj
      by_cases e1 : s[j].toNat < 48
      · have c1 : decide ((s[j].toNat : Int) < 48) = true := decide_eq_true (by omega)
        have hF := Lib.hid (hno.out j hltj (by unfold digB; rw [hgj]; exact decide_eq_false (by omega)))
        clear e1 hgj
        go_wp2_with fail
        go_ret2
        exact ⟨⟨0, 20, rfl, hF.out.symm⟩, rfl⟩
      · have c1 : decide ((s[j].toNat : Int) < 48) = false := decide_eq_false (by omega)
        by_cases e2 : 57 < s[j].toNat
        · have c2 : decide ((57 : Int) < (s[j].toNat : Int)) = true := decide_eq_true (by omega)
          have hF := Lib.hid (hno.out j hltj (by unfold digB; rw [hgj]; exact decide_eq_false (by omega)))
          clear e1 e2 hgj
          go_wp2_with fail
          go_ret2
          exact ⟨⟨0, 20, rfl, hF.out.symm⟩, rfl⟩
        · have c2 : decide ((57 : Int) < (s[j].toNat : Int)) = false := decide_eq_false (by omega)
          have hT : Hid (digB (byteAt s j) = true) := by unfold Hid digB; rw [hgj]; exact decide_eq_true (by omega)
          clear e1 e2 hgj
          go_wp2_with fail
          go_roundw
          case rel => exact ⟨j + 1, by omega, by go_num, trivial, fun k hk => by
            by_cases e : k = j
            · subst e; exact hT.out
            · exact hall.out k (by omega)⟩
          case measure => simp [intOf]; omega
    · have i1 : decide ((j : Int) < (s.size : Int)) = false := decide_eq_false (by omega)
      have hT := Lib.hid (hyes.out fun i hi => hall.out i (by omega))
      clear hall hno hyes
      go_wp2_with fail
      go_loopw [5, 6, 7] (fun nv i _ w9 => ∃ (k : Nat) (m : Int), k ≤ s.size ∧ i = .int .i64 k ∧ nv = .int .i64 m ∧ w9 = wr) (fun _ i _ _ => s.size - (intOf i).toNat)
      case atStart => exact ⟨0, 0, Nat.zero_le _, rfl, rfl, rfl⟩
      case round =>
        obtain ⟨k, m, hk, rfl, rfl, rfl⟩ := hrel
        by_cases hltk : k < s.size
        · have i1 : decide ((k : Int) < (s.size : Int)) = true := decide_eq_true (by omega)
          go_wp2_with fail
          · go_ret2
            exact ⟨⟨_, _, rfl, by rw [hT.out]; rfl⟩, rfl⟩
          · go_roundw
            case rel => exact ⟨k + 1, _, by omega, by go_num, rfl, trivial⟩
            case measure => simp [intOf]; omega
        · have i1 : decide ((k : Int) < (s.size : Int)) = false := decide_eq_false (by omega)
          go_wp2_with fail
          go_ret2
          exact ⟨⟨_, _, rfl, by rw [hT.out]; rfl⟩, rfl⟩
/-- May a keyword's text be? -/
def keyT (t : ByteArray) : Bool := (upTo t.size fun i => signB (byteAt t i)) && decide (t.size ≠ 0) && decide (t.size ≤ 100)
set_option maxHeartbeats 1000000 in
theorem rkey_any (s : ByteArray) (w : World) (hs : StrR s) : Calls Try.prog 115 #[.string s] w fun e w' => e = .returned (.bool (keyT s)) ∧ w = w' := by
  unfold StrR at hs
  have hE := empty_size s
  have hR : Hid (keyT s = ((upTo s.size fun i => signB (byteAt s i)) && decide (s.size ≠ 0) && decide (s.size ≤ 100))) := rfl
  go_enter Try.func115, Try.ntmps115
  by_cases h0 : s.size = 0
  · have hF : Hid (keyT s = false) := by unfold Hid; rw [hR.out, decide_eq_false (fun h => h h0)]; simp
    go_wp2_with fail
    go_ret
    exact ⟨by rw [hF.out]; rfl, rfl⟩
  have h00 : decide (s.size = 0) = false := decide_eq_false h0
  have hne : ¬ s = ByteArray.empty := fun e => h0 (by rw [e]; rfl)
  have e0 : s.toList.isEmpty = false := by rw [hE]; exact h00
  by_cases h1 : s.size ≤ 100
  case neg =>
    have d1 : decide ((100 : Int) < (s.size : Int)) = true := decide_eq_true (by omega)
    have hF : Hid (keyT s = false) := by unfold Hid; rw [hR.out, decide_eq_false h1]; simp
    clear h0 h1
    go_wp2_with fail
    go_ret
    exact ⟨by rw [hF.out]; rfl, rfl⟩
  have d1 : decide ((100 : Int) < (s.size : Int)) = false := decide_eq_false (by omega)
  have hm : Hid (keyT s = upTo s.size fun i => signB (byteAt s i)) := by unfold Hid; rw [hR.out, decide_eq_true h0, decide_eq_true h1]; simp
  clear h0 h1 hR
  go_wp2_with fail
  go_loopw [3] (fun i wr => ∃ j : Nat, j ≤ s.size ∧ i = .int .i64 j ∧ w = wr ∧ Hid (∀ k, k < j → signB (byteAt s k) = true)) (fun i _ => s.size - (intOf i).toNat)
  case atStart => exact ⟨0, Nat.zero_le _, rfl, rfl, fun k hk => absurd hk (Nat.not_lt_zero _)⟩
  case round =>
    obtain ⟨j, hj, rfl, rfl, hall⟩ := hrel
    by_cases hlt : j < s.size
    · have i1 : decide ((j : Int) < (s.size : Int)) = true := decide_eq_true (by omega)
      have hb := byteAt_get s j hlt
      have hS := Lib.hid (RSign_any s[j] w)
      cases hi : signB s[j] with
      | true =>
        have hj1 : Hid (signB (byteAt s j) = true) := by unfold Hid; rw [hb]; exact hi
        rw [hi] at hS
        clear hb hi
        go_wp2_with (go_at_call 116; refine hS.out.mono ?_; rintro e w' ⟨rfl, rfl⟩)
        go_roundw
        case rel => exact ⟨j + 1, by omega, by go_num, trivial, fun k hk => by
          by_cases e : k = j
          · subst e; exact hj1.out
          · exact hall.out k (by omega)⟩
        case measure => simp [intOf]; omega
      | false =>
        have hno := Lib.hid (upTo_no (p := fun i => signB (byteAt s i)) hlt (by show signB (byteAt s j) = false; rw [hb]; exact hi))
        rw [hi] at hS
        clear hb hi
        go_wp2_with (go_at_call 116; refine hS.out.mono ?_; rintro e w' ⟨rfl, rfl⟩)
        go_ret
        exact ⟨by rw [hm.out, hno.out]; rfl, rfl⟩
    · have i1 : decide ((j : Int) < (s.size : Int)) = false := decide_eq_false (by omega)
      have hyes := Lib.hid (upTo_yes (n := s.size) fun i hi => hall.out i (by omega))
      go_wp2_with fail
      go_ret
      exact ⟨by rw [hm.out, hyes.out]; rfl, rfl⟩
end Go.Proofs.Ytofcjpfbbeamnaa
