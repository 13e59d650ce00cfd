/- gantryref02.white, within, May, Reserved, Sign; gantryref04.Core; gantryref03.key: what they answer. -/
import Derived.Test.YtecmoahadckomaaGreatZSigWSigN
import Derived.Deep.CutRange
import Derived.Test.YtecmoahadckomaaGreatZIntsToNumW
namespace Go.Proofs.YtecmoahadckomaaGreat
open Go.RowKit
set_option maxRecDepth 100000

theorem rwhite_any (c : Int) (w : World) : Calls Tryz.prog 101 #[.int .u8 c] w fun e w' => e = .returned (.bool (whI c)) ∧ w = w' := by
  go_enter Tryz.func101, Tryz.ntmps101
  go_wp2
  all_goals go_ret
  all_goals refine ⟨ret_bool ?_, rfl⟩
  all_goals (show (_ : Bool) = _; rw [Bool.eq_iff_iff]; simp [whI]; try omega)
theorem rwithin_any (c : Int) (w : World) : Calls Tryz.prog 96 #[.int .u8 c] w fun e w' => e = .returned (.bool (inI c)) ∧ w = w' := by
  go_enter Tryz.func96, Tryz.ntmps96
  go_wp2_with (go_at_call 101; refine (rwhite_any _ _).mono ?_; rintro e w' ⟨rfl, rfl⟩)
  all_goals go_ret
  all_goals refine ⟨ret_bool ?_, rfl⟩
  all_goals (show (_ : Bool) = _; rw [Bool.eq_iff_iff]; simp [whI, inI]; try omega)
theorem RReserved_any (s : ByteArray) (w : World) : Calls Tryz.prog 83 #[.string s] w fun e w' => e = .returned (.bool (resS s)) ∧ w = w' := by
  go_enter Tryz.func83, Tryz.ntmps83
  go_wp2
  all_goals go_ret
  all_goals first | (exfalso; simp_all; done) | (refine ⟨ret_bool ?_, rfl⟩; simp_all [resS, isS])
theorem RCore_any (s : ByteArray) (w : World) : Calls Tryz.prog 87 #[.string s] w fun e w' => e = .returned (.bool (coreS s)) ∧ w = w' := by
  go_enter Tryz.func87, Tryz.ntmps87
  go_wp2
  all_goals go_ret
  all_goals first | (exfalso; simp_all; done) | (refine ⟨ret_bool ?_, rfl⟩; simp_all [coreS, isS])
set_option maxHeartbeats 1000000 in
theorem RNMay_any (s : ByteArray) (w : World) (hs : StrR s) : Calls Tryz.prog 82 #[.string s] w fun e w' => e = .returned (.bool (mayS s)) ∧ w = w' := by
  unfold StrR at hs
  by_cases h : s.size ≤ 100
  · have d0 : decide ((100 : Int) < (s.size : Int)) = false := decide_eq_false (by omega)
    have hm : Hid (mayS s = upTo s.size fun i => inB (byteAt s i)) := by unfold Hid mayS; rw [decide_eq_true h]; rfl
    clear h
    go_enter Tryz.func82, Tryz.ntmps82
    go_wp2_with fail
    go_loopw [3] (fun i wr => ∃ j : Nat, j ≤ s.size ∧ i = .int .i64 j ∧ w = wr ∧ Hid (∀ k, k < j → inB (byteAt s k) = true)) (fun i _ => s.size - (intOf i).toNat)
    case atStart => exact ⟨0, Nat.zero_le _, rfl, rfl, fun k hk => absurd hk (Nat.not_lt_zero _)⟩
    case round =>
      obtain ⟨j, hj, rfl, rfl, hall⟩ := hrel
      by_cases hlt : j < s.size
      · have i1 : decide ((j : Int) < (s.size : Int)) = true := decide_eq_true (by omega)
        have hb : byteAt s j = s[j] := by unfold byteAt; simp [List.getD, hlt]; rfl
        cases hi : inI (s[j].toNat : Int) with
        | true =>
          have hj1 : Hid (inB (byteAt s j) = true) := by unfold Hid inB; rw [hb]; exact hi
          clear hb
          go_wp2_with (go_at_call 96; refine (rwithin_any _ _).mono ?_; rintro e w' ⟨rfl, rfl⟩)
          go_roundw
          case rel => exact ⟨j + 1, by omega, by go_num, trivial, fun k hk => by
            by_cases e : k = j
            · subst e; exact hj1.out
            · exact hall.out k (by omega)⟩
          case measure => simp [intOf]; omega
        | false =>
          have hno := Lib.hid (upTo_no (p := fun i => inB (byteAt s i)) hlt (by show inB (byteAt s j) = false; unfold inB; rw [hb]; exact hi))
          clear hb
          go_wp2_with (go_at_call 96; refine (rwithin_any _ _).mono ?_; rintro e w' ⟨rfl, rfl⟩)
          go_ret
          exact ⟨by rw [hm.out, hno.out]; rfl, rfl⟩
      · have i1 : decide ((j : Int) < (s.size : Int)) = false := decide_eq_false (by omega)
        have hyes := Lib.hid (upTo_yes (n := s.size) fun i hi => hall.out i (by omega))
        go_wp2_with fail
        go_ret
        exact ⟨by rw [hm.out, hyes.out]; rfl, rfl⟩
  · have d0 : decide ((100 : Int) < (s.size : Int)) = true := decide_eq_true (by omega)
    have hm : Hid (mayS s = false) := by unfold Hid mayS; rw [decide_eq_false h]; rfl
    clear h
    go_enter Tryz.func82, Tryz.ntmps82
    go_wp2_with fail
    go_ret
    exact ⟨ret_bool hm.out.symm, rfl⟩
def someB : List Nat := [126, 33, 64, 36, 37, 94, 38, 42, 95, 45, 43, 61, 60, 62, 46, 63, 47]
def someS : ByteArray := ⟨#[126, 33, 64, 36, 37, 94, 38, 42, 95, 45, 43, 61, 60, 62, 46, 63, 47]⟩
def rngB (n : Nat) : Bool := decide (65 ≤ n ∧ n ≤ 90) || decide (97 ≤ n ∧ n ≤ 122) || decide (48 ≤ n ∧ n ≤ 57)
theorem some_size : someS.size = 17 := rfl
theorem some_get : ∀ j : Fin 17, (byteAt someS j.val).toNat = someB.getD j.val 0 := by decide +kernel
theorem sign_eq (c : UInt8) : signB c = (rngB c.toNat || someB.contains c.toNat) := rfl
theorem some_no {n : Nat} (h : ∀ k, k < 17 → someB.getD k 0 ≠ n) : someB.contains n = false := by
  cases hq : someB.contains n with
  | false => rfl
  | true =>
    have hm : n ∈ someB := List.contains_iff_mem.1 hq
    obtain ⟨i, hi, rfl⟩ := List.mem_iff_getElem.1 hm
    have hi' : i < 17 := hi
    have := h i hi'
    rw [List.getD_eq_getElem?_getD, List.getElem?_eq_getElem hi] at this
    exact absurd rfl this
theorem some_yes {n k : Nat} (hk : k < 17) (h : someB.getD k 0 = n) : someB.contains n = true := by
  have hk' : k < someB.length := hk
  rw [List.getD_eq_getElem?_getD, List.getElem?_eq_getElem hk'] at h
  exact List.contains_iff_mem.2 (h ▸ List.getElem_mem hk')
set_option maxHeartbeats 1000000 in
theorem RSign_any (c : UInt8) (w : World) : Calls Tryz.prog 105 #[.int .u8 c.toNat] w fun e w' => e = .returned (.bool (signB c)) ∧ w = w' := by
  have hR := Lib.hid (sign_eq c)
  generalize hn : c.toNat = n at *
  have hn' := Lib.hid hn
  clear hn
  go_enter Tryz.func105, Tryz.ntmps105
  rw [show (⟨#[126, 33, 64, 36, 37, 94, 38, 42, 95, 45, 43, 61, 60, 62, 46, 63, 47]⟩ : ByteArray) = someS from rfl]
  have hsz : Hid (someS.size = 17) := some_size
  have hget := Lib.hid fun j (h : j < 17) => some_get ⟨j, h⟩
  generalize someS = S at *
  go_upto_region 1 with fail
  go_cut [25] from 4 to 25 (fun u x => u = .bool (rngB n) ∧ x = w)
  case first =>
    go_wp2
    all_goals go_meet
    all_goals refine ⟨?_, rfl⟩
    all_goals unfold rngB
    all_goals (refine congrArg Value.bool ?_; rw [Bool.eq_iff_iff]; simp; try omega)
  case rest =>
    obtain ⟨rfl, rfl⟩ := hcut
    cases hr : rngB n with
    | true =>
      have hF : Hid (signB c = true) := by unfold Hid; rw [hR.out, hr]; rfl
      clear hr
      go_wp2_with fail
      go_ret
      exact ⟨by rw [hF.out]; rfl, rfl⟩
    | false =>
      have hR2 : Hid (signB c = someB.contains n) := by unfold Hid; rw [hR.out, hr]; rfl
      clear hr
      go_wp2_with fail
      go_loopw [3] (fun i wr => ∃ j : Nat, j ≤ 17 ∧ i = .int .i64 j ∧ wr = wc ∧ Hid (∀ k, k < j → someB.getD k 0 ≠ n)) (fun i _ => 17 - (intOf i).toNat)
      case atStart => exact ⟨0, Nat.zero_le _, rfl, rfl, fun k hk => absurd hk (Nat.not_lt_zero _)⟩
      case round =>
        obtain ⟨j, hj, rfl, rfl, hall⟩ := hrel
        by_cases hlt : j < 17
        · have i1 : decide ((j : Int) < 17) = true := decide_eq_true (by omega)
          have hjs : j < S.size := by rw [hsz.out]; exact hlt
          have hjI : (j : Int) < (S.size : Int) := by omega
          have hj0 : (0 : Int) ≤ (j : Int) := by omega
          have hb : byteAt S j = S[j] := by unfold byteAt; simp [List.getD, hjs]; rfl
          have hg := Lib.hid ((congrArg UInt8.toNat hb).symm.trans (hget.out j hlt))
          clear hb
          by_cases he : someB.getD j 0 = n
          · have hF : Hid (signB c = true) := by unfold Hid; rw [hR2.out, some_yes hlt he]
            have e1 : ((S[j].toNat : Int) == (n : Int)) = true := by simp; rw [hg.out, he]
            clear he
            go_wp2_with fail
            go_ret
            exact ⟨by rw [hF.out]; rfl, rfl⟩
          · have e1 : ((S[j].toNat : Int) == (n : Int)) = false := by simp; rw [hg.out]; omega
            have he' := Lib.hid he
            clear he
            go_wp2_with fail
            go_roundw
            case rel => exact ⟨j + 1, by omega, by go_num, trivial, fun k hk => by
              by_cases e : k = j
              · subst e; exact he'.out
              · exact hall.out k (by omega)⟩
            case measure => simp [intOf]; omega
        · have i1 : decide ((j : Int) < 17) = false := decide_eq_false (by omega)
          have hF : Hid (signB c = false) := by unfold Hid; rw [hR2.out, some_no fun k hk => hall.out k (by omega)]
          go_wp2_with fail
          go_ret
          exact ⟨by rw [hF.out]; rfl, rfl⟩
end Go.Proofs.YtecmoahadckomaaGreat

namespace Go.Proofs.YtecmoahadckomaaGreat
open Go.RowKit
set_option maxRecDepth 100000

theorem empty_size (s : ByteArray) : s.toList.isEmpty = decide (s.size = 0) := isEmpty_size s
theorem numS_of {s : ByteArray} (h0 : s.size ≠ 0) (h1 : ¬ (1 < s.size ∧ (byteAt s 0).toNat = 48)) (h2 : ∀ i, i < s.size → digB (byteAt s i) = true) : numS s = true := by
  unfold numS
  rw [decide_eq_true h0, upTo_yes h2]
  by_cases h : 1 < s.size
  · rw [decide_eq_true h, decide_eq_false (fun e => h1 ⟨h, e⟩)]; rfl
  · rw [decide_eq_false h]; rfl
theorem numS_bad {s : ByteArray} (h : s.size = 0 ∨ 1 < s.size ∧ (byteAt s 0).toNat = 48) : numS s = false := by
  unfold numS
  rcases h with h | ⟨h, h'⟩
  · rw [decide_eq_false (fun e => e h)]; rfl
  · rw [decide_eq_true h, decide_eq_true h']; simp
set_option maxHeartbeats 1000000 in
theorem rparse_any (s : ByteArray) (w : World) (hs : StrR s) : Calls Tryz.prog 102 #[.string s] w fun e w' => ParsedP s e ∧ w = w' := by
  unfold StrR at hs
  have hE := empty_size s
  go_enter Tryz.func102, Tryz.ntmps102
  by_cases h0 : s.size = 0
  · have hF := Lib.hid (numS_bad (.inl h0))
    go_wp2_with fail
    go_ret2
    exact ⟨⟨0, 20, rfl, hF.out.symm⟩, rfl⟩
  have hlt : 0 < s.size := by omega
  have h00 : decide (s.size = 0) = false := decide_eq_false h0
  have hne : ¬ s = ByteArray.empty := fun e => h0 (by rw [e]; rfl)
  have e0 : s.toList.isEmpty = false := by rw [hE]; exact h00
  have hg0 := byteAt_get s 0 hlt
  by_cases hz : 1 < s.size ∧ (byteAt s 0).toNat = 48
  · have hF := Lib.hid (numS_bad (.inr hz))
    obtain ⟨hz1, hz2⟩ := hz
    have d1 : decide (1 < (s.size : Int)) = true := decide_eq_true (by omega)
    have d1n : decide (1 < s.size) = true := decide_eq_true hz1
    have b1 : ((s[0].toNat : Int) == 48) = true := by rw [hg0] at hz2; simp; omega
    clear hz1 hz2 h0 hg0
    go_wp2_with fail
    go_ret2
    exact ⟨⟨0, 20, rfl, hF.out.symm⟩, rfl⟩
  have hcond : Hid (((s[0].toNat : Int) == 48 && decide (1 < (s.size : Int))) = false) := by
    unfold Hid
    by_cases g : 1 < s.size
    · have : ¬ (byteAt s 0).toNat = 48 := fun h => hz ⟨g, h⟩
      rw [hg0] at this
      rw [show ((s[0].toNat : Int) == 48) = false by simp; omega]; rfl
    · rw [decide_eq_false (by omega : ¬ 1 < (s.size : Int))]; simp
  have hno := Lib.hid fun i (hi : i < s.size) h => numS_no hi h
  have hyes := Lib.hid fun h => numS_of h0 hz h
  have hrest : ∀ q1 q2 : Bool, ((s[0].toNat : Int) == 48) = q1 → decide (1 < (s.size : Int)) = q2 → (q1 && q2) = false → True := fun _ _ _ _ _ => trivial
  clear hrest hz h0 hg0
  go_upto_region 1 with fail
  go_cut [19] from 8 to 19 (fun u x => u = .bool false ∧ x = w)
  case first =>
    cases hq1 : ((s[0].toNat : Int) == 48) with
    | false =>
      go_wp2
      go_meet
      exact ⟨rfl, rfl⟩
    | true =>
      have hq2 : decide (1 < (s.size : Int)) = false := by have := hcond.out; rw [hq1, Bool.true_and] at this; exact this
      have hq3 : decide (1 < s.size) = false := by rw [decide_eq_false_iff_not] at hq2 ⊢; omega
      go_wp2
      go_meet
      exact ⟨rfl, rfl⟩
  case rest =>
  obtain ⟨rfl, rfl⟩ := hcut
  clear hcond
  go_wp2_with fail
  go_loopw [4] (fun i wr => ∃ j : Nat, j ≤ s.size ∧ i = .int .i64 j ∧ wr = wc ∧ Hid (∀ k, k < j → digB (byteAt s k) = true)) (fun i _ => s.size - (intOf i).toNat)
  case atStart => exact ⟨0, Nat.zero_le _, rfl, rfl, fun k hk => absurd hk (Nat.not_lt_zero _)⟩
  case round =>
    obtain ⟨j, hj, rfl, rfl, hall⟩ := hrel
    by_cases hltj : j < s.size
    · have i1 : decide ((j : Int) < (s.size : Int)) = true := decide_eq_true (by omega)
      have hgj := byteAt_get s j hltj
      by_cases e1 : s[j].toNat < 48
      · have c1 : decide ((s[j].toNat : Int) < 48) = true := decide_eq_true (by omega)
        have hF := Lib.hid (hno.out j hltj (by unfold digB; rw [hgj]; exact decide_eq_false (by omega)))
        clear e1 hgj
        go_wp2_with fail
        go_ret2
        exact ⟨⟨0, 20, rfl, hF.out.symm⟩, rfl⟩
      · have c1 : decide ((s[j].toNat : Int) < 48) = false := decide_eq_false (by omega)
        by_cases e2 : 57 < s[j].toNat
        · have c2 : decide ((57 : Int) < (s[j].toNat : Int)) = true := decide_eq_true (by omega)
          have hF := Lib.hid (hno.out j hltj (by unfold digB; rw [hgj]; exact decide_eq_false (by omega)))
          clear e1 e2 hgj
          go_wp2_with fail
          go_ret2
          exact ⟨⟨0, 20, rfl, hF.out.symm⟩, rfl⟩
        · have c2 : decide ((57 : Int) < (s[j].toNat : Int)) = false := decide_eq_false (by omega)
          have hT : Hid (digB (byteAt s j) = true) := by unfold Hid digB; rw [hgj]; exact decide_eq_true (by omega)
          clear e1 e2 hgj
          go_wp2_with fail
          go_roundw
          case rel => exact ⟨j + 1, by omega, by go_num, trivial, fun k hk => by
            by_cases e : k = j
            · subst e; exact hT.out
            · exact hall.out k (by omega)⟩
          case measure => simp [intOf]; omega
    · have i1 : decide ((j : Int) < (s.size : Int)) = false := decide_eq_false (by omega)
      have hT := Lib.hid (hyes.out fun i hi => hall.out i (by omega))
      clear hall hno hyes
      go_wp2_with fail
      go_loopw [5, 6, 7] (fun nv i _ w9 => ∃ (k : Nat) (m : Int), k ≤ s.size ∧ i = .int .i64 k ∧ nv = .int .i64 m ∧ w9 = wr) (fun _ i _ _ => s.size - (intOf i).toNat)
      case atStart => exact ⟨0, 0, Nat.zero_le _, rfl, rfl, rfl⟩
      case round =>
        obtain ⟨k, m, hk, rfl, rfl, rfl⟩ := hrel
        by_cases hltk : k < s.size
        · have i1 : decide ((k : Int) < (s.size : Int)) = true := decide_eq_true (by omega)
          go_wp2_with fail
          · go_ret2
            exact ⟨⟨_, _, rfl, by rw [hT.out]; rfl⟩, rfl⟩
          · go_roundw
            case rel => exact ⟨k + 1, _, by omega, by go_num, rfl, trivial⟩
            case measure => simp [intOf]; omega
        · have i1 : decide ((k : Int) < (s.size : Int)) = false := decide_eq_false (by omega)
          go_wp2_with fail
          go_ret2
          exact ⟨⟨_, _, rfl, by rw [hT.out]; rfl⟩, rfl⟩
/-- May a keyword's text be? -/
def keyT (t : ByteArray) : Bool := (upTo t.size fun i => signB (byteAt t i)) && decide (t.size ≠ 0) && decide (t.size ≤ 100)
set_option maxHeartbeats 1000000 in
theorem rkey_any (s : ByteArray) (w : World) (hs : StrR s) : Calls Tryz.prog 103 #[.string s] w fun e w' => e = .returned (.bool (keyT s)) ∧ w = w' := by
  unfold StrR at hs
  have hE := empty_size s
  have hR : Hid (keyT s = ((upTo s.size fun i => signB (byteAt s i)) && decide (s.size ≠ 0) && decide (s.size ≤ 100))) := rfl
  go_enter Tryz.func103, Tryz.ntmps103
  by_cases h0 : s.size = 0
  · have hF : Hid (keyT s = false) := by unfold Hid; rw [hR.out, decide_eq_false (fun h => h h0)]; simp
    go_wp2_with fail
    go_ret
    exact ⟨by rw [hF.out]; rfl, rfl⟩
  have h00 : decide (s.size = 0) = false := decide_eq_false h0
  have hne : ¬ s = ByteArray.empty := fun e => h0 (by rw [e]; rfl)
  have e0 : s.toList.isEmpty = false := by rw [hE]; exact h00
  by_cases h1 : s.size ≤ 100
  case neg =>
    have d1 : decide ((100 : Int) < (s.size : Int)) = true := decide_eq_true (by omega)
    have hF : Hid (keyT s = false) := by unfold Hid; rw [hR.out, decide_eq_false h1]; simp
    clear h0 h1
    go_wp2_with fail
    go_ret
    exact ⟨by rw [hF.out]; rfl, rfl⟩
  have d1 : decide ((100 : Int) < (s.size : Int)) = false := decide_eq_false (by omega)
  have hm : Hid (keyT s = upTo s.size fun i => signB (byteAt s i)) := by unfold Hid; rw [hR.out, decide_eq_true h0, decide_eq_true h1]; simp
  clear h0 h1 hR
  go_wp2_with fail
  go_loopw [3] (fun i wr => ∃ j : Nat, j ≤ s.size ∧ i = .int .i64 j ∧ w = wr ∧ Hid (∀ k, k < j → signB (byteAt s k) = true)) (fun i _ => s.size - (intOf i).toNat)
  case atStart => exact ⟨0, Nat.zero_le _, rfl, rfl, fun k hk => absurd hk (Nat.not_lt_zero _)⟩
  case round =>
    obtain ⟨j, hj, rfl, rfl, hall⟩ := hrel
    by_cases hlt : j < s.size
    · have i1 : decide ((j : Int) < (s.size : Int)) = true := decide_eq_true (by omega)
      have hb := byteAt_get s j hlt
      have hS := Lib.hid (RSign_any s[j] w)
      cases hi : signB s[j] with
      | true =>
        have hj1 : Hid (signB (byteAt s j) = true) := by unfold Hid; rw [hb]; exact hi
        rw [hi] at hS
        clear hb hi
        go_wp2_with (go_at_call 105; refine hS.out.mono ?_; rintro e w' ⟨rfl, rfl⟩)
        go_roundw
        case rel => exact ⟨j + 1, by omega, by go_num, trivial, fun k hk => by
          by_cases e : k = j
          · subst e; exact hj1.out
          · exact hall.out k (by omega)⟩
        case measure => simp [intOf]; omega
      | false =>
        have hno := Lib.hid (upTo_no (p := fun i => signB (byteAt s i)) hlt (by show signB (byteAt s j) = false; rw [hb]; exact hi))
        rw [hi] at hS
        clear hb hi
        go_wp2_with (go_at_call 105; refine hS.out.mono ?_; rintro e w' ⟨rfl, rfl⟩)
        go_ret
        exact ⟨by rw [hm.out, hno.out]; rfl, rfl⟩
    · have i1 : decide ((j : Int) < (s.size : Int)) = false := decide_eq_false (by omega)
      have hyes := Lib.hid (upTo_yes (n := s.size) fun i hi => hall.out i (by omega))
      go_wp2_with fail
      go_ret
      exact ⟨by rw [hm.out, hyes.out]; rfl, rfl⟩
end Go.Proofs.YtecmoahadckomaaGreat

namespace Go.Proofs.YtecmoahadckomaaGreat
open Go.RowKit
set_option maxRecDepth 100000

set_option maxHeartbeats 1000000 in
theorem RDepth_any : ∀ (x : Sx) (kv tv lv : Value) (w : World), SxIs w x kv tv lv →
    Calls Tryz.prog 98 #[.agg #[kv, tv, lv]] w fun e w' => e = .returned (.int .i64 (depX x)) ∧ Below w.heap.size w w'
  | .nil, _, _, _, _, h => h.elim
  | .mk k t n l, kv, tv, lv, w, h => by
    have ih := fun i => RDepth_any (l i)
    obtain ⟨rfl, hk, rfl, ht, hl⟩ := h.row
    have hl' := Lib.hid hl
    obtain ⟨A, c, rfl, ⟨hn, hc⟩, _⟩ := hl
    by_cases h3 : k = 3
    · subst h3
      have hR : Hid (depX (.mk 3 t n l) = wrap64 (maxUp n (fun i => depX (l i)) + 1)) := by unfold Hid; rw [depX, if_pos rfl]
      have ih' := Lib.hid ih
      clear ih h
      have hx0 := Lib.hid ((Bx.nil w).row #[.int .i8 3, .string t, .slice A n c] 53)
      obtain ⟨⟨k0, -⟩, ⟨k1, -⟩, ⟨k2, -⟩, -⟩ := hx0.out.cells
      go_enter Tryz.func98, Tryz.ntmps98
      go_wp2_with fail
      clear k0 k1 k2
      go_loopw [3, 4] (fun d i wr => ∃ j : Nat, j ≤ n ∧ i = .int .i64 j ∧ d = .int .i64 (maxUp j fun i => depX (l i)) ∧ Hid (Bx w (rowK w.heap.size [.int .i8 3, .string t, .slice A n c] 0 ++ []) wr)) (fun _ i _ => n - (intOf i).toNat)
      case atStart => exact ⟨0, Nat.zero_le _, rfl, rfl, hx0.out⟩
      case round =>
        clear hx0
        obtain ⟨j, hj, rfl, rfl, hx⟩ := hrel
        obtain ⟨⟨k0, -⟩, ⟨k1, -⟩, ⟨k2, -⟩, -⟩ := hx.out.cells
        by_cases hlt : j < n
        · have i1 : decide ((j : Int) < (n : Int)) = true := decide_eq_true (by omega)
          have hj0 : (0 : Int) ≤ (j : Int) := by omega
          have hjn : (j : Int) < (n : Int) := by omega
          obtain ⟨_, _, e, _, hcs⟩ := hl'.out.below hx.out.bel
          injection e with e1 _ e3
          subst e1; subst e3
          obtain ⟨b, o, rfl, hbl, hcs⟩ := hcs (by omega)
          obtain ⟨k', t', l', c0, c1, c2, hsx⟩ := hcs j hlt
          obtain ⟨kk, tt, AA, nn, cc, rfl, rfl, rfl⟩ := hsx.forms
          clear hcs
          have hcall := Lib.hid (ih'.out j _ _ _ wr hsx)
          have hmx := maxUp_nonneg j fun i => depX (l i)
          generalize hm : (maxUp j fun i => depX (l i)) = m at *
          generalize hd : depX (l j) = dd at *
          have hmax : Hid ((maxUp (j + 1) fun i => depX (l i)) = max m dd) := by unfold Hid; rw [maxUp, hm, hd]
          clear hm hd hsx
          go_wp2_with (go_at_call 98; (with_reducible refine hcall.out.mono ?_); rintro e w2 ⟨rfl, hb2⟩; have hx2 := Lib.hid (hx.out.step hb2))
          all_goals go_roundw
          all_goals first | (case rel => exact ⟨j + 1, by omega, by go_num, by rw [hmax.out, max_if], hx2.out⟩) | skip
          all_goals first | (case rel => exact ⟨j + 1, by omega, by go_num, by rw [hmax.out]; first | rfl | (congr 1; omega), hx2.out⟩) | skip
          all_goals first | (case measure => simp [intOf]; omega) | skip
        · have i1 : decide ((j : Int) < (n : Int)) = false := decide_eq_false (by omega)
          have hjn : Hid (j = n) := by unfold Hid; omega
          generalize hm : (maxUp j fun i => depX (l i)) = m at *
          have hF : Hid (depX (.mk 3 t n l) = wrap64 (m + 1)) := by unfold Hid; rw [hR.out, ← hm, hjn.out]
          clear hm
          go_wp2_with fail
          go_ret
          exact ⟨ret_int hF.out.symm, hx.out.bel⟩
    · have hR : Hid (depX (.mk k t n l) = 0) := by unfold Hid; rw [depX, if_neg h3]
      have d0 : (k != 3) = true := by simpa using h3
      clear h3 ih h
      go_enter Tryz.func98, Tryz.ntmps98
      go_wp2_with fail
      go_ret
      exact ⟨ret_int hR.out.symm, (Below.refl _ _).alloc (Nat.le_refl _) _⟩
theorem stX_some {k : Int} {t : ByteArray} {n : Nat} {l : Nat → Sx} (h3 : k ≠ 3) (hn : n ≠ 0) : stX (.mk k t n l) = false := by
  rw [stX]
  unfold symB nmB kwB
  rw [decide_eq_false hn]
  simp [h3]
set_option maxHeartbeats 2000000 in
theorem RSt_any : ∀ (x : Sx) (kv tv lv : Value) (w : World), SxIs w x kv tv lv →
    Calls Tryz.prog 99 #[.agg #[kv, tv, lv]] w fun e w' => e = .returned (.bool (stX x)) ∧ Below w.heap.size w w'
  | .nil, _, _, _, _, h => h.elim
  | .mk k t n l, kv, tv, lv, w, h => by
    have ih := fun i => RSt_any (l i)
    obtain ⟨rfl, hk, rfl, ht, hl⟩ := h.row
    have hl' := Lib.hid hl
    obtain ⟨A, c, rfl, ⟨hn, hc⟩, _⟩ := hl
    have hx0 := Lib.hid ((Bx.nil w).row #[.int .i8 k, .string t, .slice A n c] 53)
    obtain ⟨⟨k0, -⟩, ⟨k1, -⟩, ⟨k2, -⟩, -⟩ := hx0.out.cells
    have ht' := Lib.hid ht
    have ih' := Lib.hid ih
    have hE := empty_size t
    have hR : Hid (stX (.mk k t n l) = if k = 0 then symB n t else if k = 1 then nmB n t else if k = 2 then kwB n t else if k = 3 then t.toList.isEmpty && upTo n (fun i => stX (l i)) else false) := by unfold Hid; rw [stX]
    clear ih h ht
    go_enter Tryz.func99, Tryz.ntmps99
    by_cases h3 : k = 3
    · subst h3
      have hR2 : Hid (stX (.mk 3 t n l) = (t.toList.isEmpty && upTo n (fun i => stX (l i)))) := by unfold Hid; rw [hR.out]; simp
      have hno := Lib.hid fun i (hi : i < n) (h : stX (l i) = false) => show stX (.mk 3 t n l) = false by rw [hR2.out, upTo_no hi h, Bool.and_false]
      clear hR
      go_wp2_with fail
      clear k0 k1 k2
      go_loopw [5] (fun i wr => ∃ j : Nat, j ≤ n ∧ i = .int .i64 j ∧ Hid (∀ k, k < j → stX (l k) = true) ∧ Hid (Bx w (rowK w.heap.size [.int .i8 3, .string t, .slice A n c] 0 ++ []) wr)) (fun i _ => n - (intOf i).toNat)
      case atStart => exact ⟨0, Nat.zero_le _, rfl, fun k hk => absurd hk (Nat.not_lt_zero _), hx0.out⟩
      case round =>
        clear hx0
        obtain ⟨j, hj, rfl, hall, hx⟩ := hrel
        obtain ⟨⟨k0, -⟩, ⟨k1, -⟩, ⟨k2, -⟩, -⟩ := hx.out.cells
        by_cases hlt : j < n
        · have i1 : decide ((j : Int) < (n : Int)) = true := decide_eq_true (by omega)
          have hj0 : (0 : Int) ≤ (j : Int) := by omega
          have hjn : (j : Int) < (n : Int) := by omega
          obtain ⟨_, _, e, _, hcs⟩ := hl'.out.below hx.out.bel
          injection e with e1 _ e3
          subst e1; subst e3
          obtain ⟨b, o, rfl, hbl, hcs⟩ := hcs (by omega)
          obtain ⟨k', t', l', c0, c1, c2, hsx⟩ := hcs j hlt
          obtain ⟨kk, tt, AA, nn, cc, rfl, rfl, rfl⟩ := hsx.forms
          clear hcs
          have hcall := Lib.hid (ih'.out j _ _ _ wr hsx)
          have hnoj := Lib.hid (hno.out j hlt)
          clear hsx hno
          cases hq : stX (l j) with
          | false =>
            rw [hq] at hcall
            have hF := Lib.hid (hnoj.out hq)
            clear hq
            go_wp2_with (go_at_call 99; (with_reducible refine hcall.out.mono ?_); rintro e w2 ⟨rfl, hb2⟩; have hx2 := Lib.hid (hx.out.step hb2))
            go_ret
            exact ⟨by rw [hF.out]; rfl, hx2.out.bel⟩
          | true =>
            rw [hq] at hcall
            have hq' := Lib.hid hq
            clear hq
            go_wp2_with (go_at_call 99; (with_reducible refine hcall.out.mono ?_); rintro e w2 ⟨rfl, hb2⟩; have hx2 := Lib.hid (hx.out.step hb2))
            go_roundw
            case rel => exact ⟨j + 1, by omega, by go_num, fun r hr => by
              by_cases e : r = j
              · subst e; exact hq'.out
              · exact hall.out r (by omega), hx2.out⟩
            case measure => simp [intOf]; omega
        · have i1 : decide ((j : Int) < (n : Int)) = false := decide_eq_false (by omega)
          have hU : Hid (stX (.mk 3 t n l) = t.toList.isEmpty) := by unfold Hid; rw [hR2.out, upTo_yes fun i hi => hall.out i (by omega), Bool.and_true]
          by_cases h0 : t.size = 0
          · have e0 : t.toList.isEmpty = true := by rw [hE]; exact decide_eq_true h0
            have hF : Hid (stX (.mk 3 t n l) = true) := by unfold Hid; rw [hU.out, e0]
            go_wp2_with fail
            go_ret
            exact ⟨by rw [hF.out]; rfl, hx.out.bel⟩
          · have hne : ¬ t = ByteArray.empty := fun e => h0 (by rw [e]; rfl)
            have h00 : decide (t.size = 0) = false := decide_eq_false h0
            have e0 : t.toList.isEmpty = false := by rw [hE]; exact decide_eq_false h0
            have hF : Hid (stX (.mk 3 t n l) = false) := by unfold Hid; rw [hU.out, e0]
            go_wp2_with fail
            go_ret
            exact ⟨by rw [hF.out]; rfl, hx.out.bel⟩
    have d3 : (k != 3) = true := by simpa using h3
    have d3' : (k == 3) = false := by simpa using h3
    by_cases hn0 : n = 0
    case neg =>
      have hF : Hid (stX (.mk k t n l) = false) := stX_some h3 hn0
      have d4 : decide ((0 : Int) < (n : Int)) = true := decide_eq_true (by omega)
      have d5 : decide (0 < n) = true := decide_eq_true (by omega)
      clear h3 hn0
      go_wp2_with fail
      go_ret
      exact ⟨by rw [hF.out]; rfl, hx0.out.bel⟩
    subst hn0
    by_cases g0 : k = 0
    · subst g0
      have hF : Hid (stX (.mk 0 t 0 l) = mayS t) := by unfold Hid; rw [hR.out]; simp [symB]
      have hM := Lib.hid fun (X : World) => RNMay_any t X ht'.out
      generalize mayS t = q at *
      go_wp2_with fail
      refine (hM.out _).mono ?_
      rintro e w2 ⟨rfl, rfl⟩
      go_wp2_with fail
      go_ret
      exact ⟨by rw [hF.out]; rfl, hx0.out.bel⟩
    have d0 : (k == 0) = false := by simpa using g0
    by_cases g1 : k = 1
    · subst g1
      have hF : Hid (stX (.mk 1 t 0 l) = (numS t && decide (t.size ≤ 100))) := by unfold Hid; rw [hR.out]; simp [nmB]
      have hM := Lib.hid fun (X : World) => rparse_any t X ht'.out
      have hsz := ht'.out
      unfold StrR at hsz
      go_wp2_with fail
      refine (hM.out _).mono ?_
      rintro e w2 ⟨⟨nn, er, rfl, hq⟩, rfl⟩
      rw [← hq] at hF
      clear hq hM
      cases hq : (er != 20) with
      | false =>
        rw [hq] at hF
        have hF2 : Hid (stX (.mk 1 t 0 l) = false) := hF.out
        go_wp2_with fail
        go_ret
        exact ⟨by rw [hF2.out]; rfl, hx0.out.bel⟩
      | true =>
        rw [hq, Bool.true_and] at hF
        by_cases hz : t.size ≤ 100
        · have d8 : decide ((t.size : Int) ≤ 100) = true := decide_eq_true (by omega)
          have hF2 : Hid (stX (.mk 1 t 0 l) = true) := by unfold Hid; rw [hF.out, decide_eq_true hz]
          clear hz
          go_wp2_with fail
          go_ret
          exact ⟨by rw [hF2.out]; rfl, hx0.out.bel⟩
        · have d8 : decide ((t.size : Int) ≤ 100) = false := decide_eq_false (by omega)
          have hF2 : Hid (stX (.mk 1 t 0 l) = false) := by unfold Hid; rw [hF.out, decide_eq_false hz]
          clear hz
          go_wp2_with fail
          go_ret
          exact ⟨by rw [hF2.out]; rfl, hx0.out.bel⟩
    have d1 : (k == 1) = false := by simpa using g1
    by_cases g2 : k = 2
    · subst g2
      have hF : Hid (stX (.mk 2 t 0 l) = keyT t) := by unfold Hid; rw [hR.out]; simp [kwB, keyT]
      have hM := Lib.hid fun (X : World) => rkey_any t X ht'.out
      generalize keyT t = q at *
      go_wp2_with fail
      refine (hM.out _).mono ?_
      rintro e w2 ⟨rfl, rfl⟩
      go_wp2_with fail
      go_ret
      exact ⟨by rw [hF.out]; rfl, hx0.out.bel⟩
    have d2 : (k == 2) = false := by simpa using g2
    have hF : Hid (stX (.mk k t 0 l) = false) := by unfold Hid; rw [hR.out, if_neg g0, if_neg g1, if_neg g2, if_neg h3]
    clear h3 g0 g1 g2
    go_wp2_with fail
    go_ret
    exact ⟨by rw [hF.out]; rfl, hx0.out.bel⟩
theorem RXMay_any (x : Sx) (kv tv lv : Value) (w : World) (h : SxIs w x kv tv lv) :
    Calls Tryz.prog 89 #[.agg #[kv, tv, lv]] w fun e w' => e = .returned (.bool (mayX x)) ∧ Below w.heap.size w w' := by
  obtain ⟨kk, tt, A, nn, cc, rfl, rfl, rfl⟩ := h.forms
  have hx0 := Lib.hid ((Bx.nil w).row #[.int .i8 kk, .string tt, .slice A nn cc] 53)
  obtain ⟨⟨k0, -⟩, ⟨k1, -⟩, ⟨k2, -⟩, -⟩ := hx0.out.cells
  have hD := Lib.hid (RDepth_any x _ _ _ _ (SxIs.below hx0.out.bel _ _ _ _ h))
  have hS := Lib.hid fun (X : World) (hb : Below w.heap.size w X) => RSt_any x _ _ _ X (SxIs.below hb _ _ _ _ h)
  have hR : Hid (mayX x = (decide (depX x ≤ 60) && stX x)) := rfl
  clear h
  generalize depX x = d at *
  generalize stX x = q at *
  go_enter Tryz.func89, Tryz.ntmps89
  by_cases hd : d ≤ 60
  · have d1 : decide (d ≤ 60) = true := decide_eq_true hd
    have hF : Hid (mayX x = q) := by unfold Hid; rw [hR.out, d1]; rfl
    clear hd
    go_wp2_with fail
    refine hD.out.mono ?_
    rintro e w2 ⟨rfl, hb2⟩
    have hx2 := Lib.hid (hx0.out.step hb2)
    clear k0 k1 k2
    obtain ⟨⟨k0, -⟩, ⟨k1, -⟩, ⟨k2, -⟩, -⟩ := hx2.out.cells
    go_wp2_with fail
    refine (hS.out _ hx2.out.bel).mono ?_
    rintro e w3 ⟨rfl, hb3⟩
    have hx3 := Lib.hid (hx2.out.step hb3)
    go_wp2_with fail
    go_ret
    exact ⟨by rw [hF.out]; rfl, hx3.out.bel⟩
  · have d1 : decide (d ≤ 60) = false := decide_eq_false hd
    have hF : Hid (mayX x = false) := by unfold Hid; rw [hR.out, d1]; rfl
    clear hd
    go_wp2_with fail
    refine hD.out.mono ?_
    rintro e w2 ⟨rfl, hb2⟩
    have hx2 := Lib.hid (hx0.out.step hb2)
    go_wp2_with fail
    go_ret
    exact ⟨by rw [hF.out]; rfl, hx2.out.bel⟩
end Go.Proofs.YtecmoahadckomaaGreat

namespace Go.Proofs.YtecmoahadckomaaGreat
open Go.RowKit
set_option maxRecDepth 100000

theorem among_iff {n : Nat} {f : Nat → ByteArray} {s : ByteArray} : amongS n f s = true ↔ ∃ i, i < n ∧ f i = s := by
  unfold amongS
  rw [Bool.not_eq_true']
  constructor
  · intro h
    rcases Classical.em (∃ i, i < n ∧ f i = s) with h1 | h1
    · exact h1
    · rw [upTo_yes fun k hk => by rw [eqS_ne (fun e => h1 ⟨k, hk, e⟩)]; rfl] at h; cases h
  · rintro ⟨i, hi, rfl⟩
    exact upTo_no hi (by rw [eqS_self]; rfl)
theorem among_no {n : Nat} {f : Nat → ByteArray} {s : ByteArray} (h : ∀ i, i < n → f i ≠ s) : amongS n f s = false := by
  cases hq : amongS n f s with
  | false => rfl
  | true => obtain ⟨i, hi, e⟩ := among_iff.1 hq; exact absurd e (h i hi)
def sortHas (g : Sg) (s : ByteArray) : Bool := eqS boolS s || (eqS intS s || amongS g.ns g.S s)
def funHas (g : Sg) (s : ByteArray) : Bool := amongS g.nf (fun i => (g.F i).name) s
def macHas (g : Sg) (s : ByteArray) : Bool := amongS g.nm (fun i => (g.M i).name) s
def freeR (g : Sg) (s : ByteArray) (sort : Bool) : Int := if useS s = false then 31 else if (if sort then sortHas g s else funHas g s || (macHas g s || coreS s)) = true then 32 else 0
def sgR (w : World) (sv fv mv : Value) : List (Nat × Nat × Value) := rowK w.heap.size [sv, fv, mv] 0 ++ []
theorem sgR_bx (w : World) (sv fv mv : Value) : Bx w (sgR w sv fv mv) (w.alloc (.cells #[sv, fv, mv] 26)) := (Bx.nil w).row #[sv, fv, mv] 26
theorem sgR_cells {w x : World} {sv fv mv : Value} (h : Bx w (sgR w sv fv mv) x) : x.cell? ⟨w.heap.size, 0, none⟩ = some sv ∧ x.cell? ⟨w.heap.size, 1, none⟩ = some fv ∧ x.cell? ⟨w.heap.size, 2, none⟩ = some mv := ⟨h.cells.1.1, h.cells.2.1.1, h.cells.2.2.1.1⟩
theorem RowAt.at_ {k : Nat} {C : World → Nat → Nat → Nat → Prop} {w : World} {v : Value} {n : Nat} (h : RowAt k C w v n) {i : Nat} (hi : i < n) : ∃ b o c, v = .slice (some ⟨b, o, none⟩) n c ∧ b < w.heap.size ∧ C w b (o + i * k) i := by
  obtain ⟨A, c, rfl, _, hc⟩ := h
  obtain ⟨b, o, rfl, hb, hc⟩ := hc (by omega)
  exact ⟨b, o, c, rfl, hb, hc i hi⟩
theorem same_yes' {s t : ByteArray} (h : s = t) : (s.toList == t.toList) = true := by rw [h]; simp
theorem same_no' {s t : ByteArray} (h : s ≠ t) : (s.toList == t.toList) = false := eqS_ne h
set_option maxHeartbeats 1000000 in
theorem RFun_any (sv fv mv : Value) (g : Sg) (s : ByteArray) (w : World) (hG : SgAt w sv fv mv g) :
    Calls Tryz.prog 85 #[.agg #[sv, fv, mv], .string s] w fun e w' => (∃ x, e = .returned (.tuple #[.int .i64 x, .bool (funHas g s)])) ∧ Below w.heap.size w w' := by
  have hG' := Lib.hid hG
  obtain ⟨A, c, rfl, -, -⟩ := hG.1
  obtain ⟨FA, fc, rfl, ⟨hfn, hfc⟩, -⟩ := hG.2.1
  obtain ⟨MA, mc, rfl, -, -⟩ := hG.2.2
  have hx0 := Lib.hid (sgR_bx w (.slice A g.ns c) (.slice FA g.nf fc) (.slice MA g.nm mc))
  have hyes := Lib.hid fun i (hi : i < g.nf) (h : (g.F i).name = s) => show funHas g s = true from among_iff.2 ⟨i, hi, h⟩
  have hno := Lib.hid fun (h : ∀ i, i < g.nf → (g.F i).name ≠ s) => show funHas g s = false from among_no h
  clear hG
  go_enter Tryz.func85, Tryz.ntmps85
  go_wp2_with fail
  go_loopw [6] (fun i wr => ∃ j : Nat, j ≤ g.nf ∧ i = .int .i64 j ∧ Hid (∀ k, k < j → (g.F k).name ≠ s) ∧ Hid (Bx w (sgR w (.slice A g.ns c) (.slice FA g.nf fc) (.slice MA g.nm mc)) wr)) (fun i _ => g.nf - (intOf i).toNat)
  case atStart => exact ⟨0, Nat.zero_le _, rfl, fun k hk => absurd hk (Nat.not_lt_zero _), hx0.out⟩
  case round =>
    clear hx0
    obtain ⟨j, hj, rfl, hall, hx⟩ := hrel
    obtain ⟨k0, k1, k2⟩ := sgR_cells hx.out
    by_cases hlt : j < g.nf
    · have i1 : decide ((j : Int) < (g.nf : Int)) = true := decide_eq_true (by omega)
      have hj0 : (0 : Int) ≤ (j : Int) := by omega
      have hjn : (j : Int) < (g.nf : Int) := by omega
      obtain ⟨fb, fo, fcc, e, hfb, hfn0⟩ := RowAt.at_ hG'.out.2.1 hlt
      injection e with e _ ec
      subst e; subst ec
      have p0 := (hx.out.bel.cell (p := ⟨fb, fo + j * 6, none⟩) hfb).trans hfn0.1.1
      by_cases he : (g.F j).name = s
      · have hF := Lib.hid (hyes.out j hlt he)
        have e1 := same_yes' he
        clear he hfn0
        go_wp2_with fail
        exact bodyPost_ret (results_tmp2 rfl _ _ _) rfl ⟨⟨_, by rw [hF.out]; rfl⟩, hx.out.bel⟩
      · have e1 := same_no' he
        have he' := Lib.hid he
        clear hfn0
        go_wp2_with fail
        go_roundw
        case rel => exact ⟨j + 1, by omega, by go_num, fun r hr => by
          by_cases e : r = j
          · subst e; exact he'.out
          · exact hall.out r (by omega), hx.out⟩
        case measure => simp [intOf]; omega
    · have i1 : decide ((j : Int) < (g.nf : Int)) = false := decide_eq_false (by omega)
      have hF := Lib.hid (hno.out fun i hi => hall.out i (by omega))
      go_wp2_with fail
      exact bodyPost_ret (results_tmp2 rfl _ _ _) rfl ⟨⟨_, by rw [hF.out]; rfl⟩, hx.out.bel⟩
set_option maxHeartbeats 1000000 in
theorem RMacro_any (sv fv mv : Value) (g : Sg) (s : ByteArray) (w : World) (hG : SgAt w sv fv mv g) :
    Calls Tryz.prog 86 #[.agg #[sv, fv, mv], .string s] w fun e w' => (∃ x, e = .returned (.tuple #[.int .i64 x, .bool (macHas g s)])) ∧ Below w.heap.size w w' := by
  have hG' := Lib.hid hG
  obtain ⟨A, c, rfl, -, -⟩ := hG.1
  obtain ⟨FA, fc, rfl, -, -⟩ := hG.2.1
  obtain ⟨MA, mc, rfl, ⟨hfn, hfc⟩, -⟩ := hG.2.2
  have hx0 := Lib.hid (sgR_bx w (.slice A g.ns c) (.slice FA g.nf fc) (.slice MA g.nm mc))
  have hyes := Lib.hid fun i (hi : i < g.nm) (h : (g.M i).name = s) => show macHas g s = true from among_iff.2 ⟨i, hi, h⟩
  have hno := Lib.hid fun (h : ∀ i, i < g.nm → (g.M i).name ≠ s) => show macHas g s = false from among_no h
  clear hG
  go_enter Tryz.func86, Tryz.ntmps86
  go_wp2_with fail
  go_loopw [6] (fun i wr => ∃ j : Nat, j ≤ g.nm ∧ i = .int .i64 j ∧ Hid (∀ k, k < j → (g.M k).name ≠ s) ∧ Hid (Bx w (sgR w (.slice A g.ns c) (.slice FA g.nf fc) (.slice MA g.nm mc)) wr)) (fun i _ => g.nm - (intOf i).toNat)
  case atStart => exact ⟨0, Nat.zero_le _, rfl, fun k hk => absurd hk (Nat.not_lt_zero _), hx0.out⟩
  case round =>
    clear hx0
    obtain ⟨j, hj, rfl, hall, hx⟩ := hrel
    obtain ⟨k0, k1, k2⟩ := sgR_cells hx.out
    by_cases hlt : j < g.nm
    · have i1 : decide ((j : Int) < (g.nm : Int)) = true := decide_eq_true (by omega)
      have hj0 : (0 : Int) ≤ (j : Int) := by omega
      have hjn : (j : Int) < (g.nm : Int) := by omega
      obtain ⟨fb, fo, fcc, e, hfb, v0, v1, v2, v3, v4, v5, ⟨m0, -⟩, hmi⟩ := RowAt.at_ hG'.out.2.2 hlt
      injection e with e _ ec
      subst e; subst ec
      have p0 := (hx.out.bel.cell (p := ⟨fb, fo + j * 6, none⟩) hfb).trans (m0.trans (congrArg some hmi.1))
      by_cases he : (g.M j).name = s
      · have hF := Lib.hid (hyes.out j hlt he)
        have e1 := same_yes' he
        clear he m0 hmi
        go_wp2_with fail
        exact bodyPost_ret (results_tmp2 rfl _ _ _) rfl ⟨⟨_, by rw [hF.out]; rfl⟩, hx.out.bel⟩
      · have e1 := same_no' he
        have he' := Lib.hid he
        clear m0 hmi
        go_wp2_with fail
        go_roundw
        case rel => exact ⟨j + 1, by omega, by go_num, fun r hr => by
          by_cases e : r = j
          · subst e; exact he'.out
          · exact hall.out r (by omega), hx.out⟩
        case measure => simp [intOf]; omega
    · have i1 : decide ((j : Int) < (g.nm : Int)) = false := decide_eq_false (by omega)
      have hF := Lib.hid (hno.out fun i hi => hall.out i (by omega))
      go_wp2_with fail
      exact bodyPost_ret (results_tmp2 rfl _ _ _) rfl ⟨⟨_, by rw [hF.out]; rfl⟩, hx.out.bel⟩
set_option maxHeartbeats 1000000 in
theorem RSort_any (sv fv mv : Value) (g : Sg) (s : ByteArray) (w : World) (hG : SgAt w sv fv mv g) :
    Calls Tryz.prog 84 #[.agg #[sv, fv, mv], .string s] w fun e w' => (∃ x, e = .returned (.tuple #[.int .i64 x, .bool (sortHas g s)])) ∧ Below w.heap.size w w' := by
  have hG' := Lib.hid hG
  obtain ⟨A, c, rfl, ⟨hfn, hfc⟩, -⟩ := hG.1
  obtain ⟨FA, fc, rfl, -, -⟩ := hG.2.1
  obtain ⟨MA, mc, rfl, -, -⟩ := hG.2.2
  have hx0 := Lib.hid (sgR_bx w (.slice A g.ns c) (.slice FA g.nf fc) (.slice MA g.nm mc))
  have hyes := Lib.hid fun i (hi : i < g.ns) (h : g.S i = s) => show sortHas g s = true from by unfold sortHas; rw [among_iff.2 ⟨i, hi, h⟩]; simp
  have hno := Lib.hid fun (h1 : boolS ≠ s) (h2 : intS ≠ s) (h : ∀ i, i < g.ns → g.S i ≠ s) => show sortHas g s = false by unfold sortHas; rw [among_no h, eqS_ne h1, eqS_ne h2]; rfl
  clear hG
  go_enter Tryz.func84, Tryz.ntmps84
  by_cases hb : s = boolS
  · have hF : Hid (sortHas g s = true) := by unfold Hid sortHas; rw [hb, eqS_self]; rfl
    have e1 : (s.toList == [66, 111, 111, 108]) = true := by rw [hb]; decide +kernel
    clear hb
    go_wp2_with fail
    exact bodyPost_ret (results_tmp2 rfl _ _ _) rfl ⟨⟨_, by rw [hF.out]; rfl⟩, hx0.out.bel⟩
  have e1 : (s.toList == [66, 111, 111, 108]) = false := by have := same_no' hb; rwa [show boolS.toList = [66, 111, 111, 108] by decide +kernel] at this
  by_cases hi : s = intS
  · have hF : Hid (sortHas g s = true) := by unfold Hid sortHas; rw [hi, eqS_self]; simp
    have e2 : (s.toList == [73, 110, 116]) = true := by rw [hi]; decide +kernel
    clear hi
    go_wp2_with fail
    exact bodyPost_ret (results_tmp2 rfl _ _ _) rfl ⟨⟨_, by rw [hF.out]; rfl⟩, hx0.out.bel⟩
  have e2 : (s.toList == [73, 110, 116]) = false := by have := same_no' hi; rwa [show intS.toList = [73, 110, 116] by decide +kernel] at this
  have hb' := Lib.hid hb
  have hi' := Lib.hid hi
  go_wp2_with fail
  go_loopw [6] (fun i wr => ∃ j : Nat, j ≤ g.ns ∧ i = .int .i64 j ∧ Hid (∀ k, k < j → g.S k ≠ s) ∧ Hid (Bx w (sgR w (.slice A g.ns c) (.slice FA g.nf fc) (.slice MA g.nm mc)) wr)) (fun i _ => g.ns - (intOf i).toNat)
  case atStart => exact ⟨0, Nat.zero_le _, rfl, fun k hk => absurd hk (Nat.not_lt_zero _), hx0.out⟩
  case round =>
    clear hx0
    obtain ⟨j, hj, rfl, hall, hx⟩ := hrel
    obtain ⟨k0, k1, k2⟩ := sgR_cells hx.out
    by_cases hlt : j < g.ns
    · have i1 : decide ((j : Int) < (g.ns : Int)) = true := decide_eq_true (by omega)
      have hj0 : (0 : Int) ≤ (j : Int) := by omega
      have hjn : (j : Int) < (g.ns : Int) := by omega
      obtain ⟨fb, fo, fcc, e, hfb, hfn0⟩ := RowAt.at_ hG'.out.1 hlt
      injection e with e _ ec
      subst e; subst ec
      have p0 := (hx.out.bel.cell (p := ⟨fb, fo + j * 1, none⟩) hfb).trans hfn0.1
      rw [Nat.mul_one] at p0
      by_cases he : (g.S j) = s
      · have hF := Lib.hid (hyes.out j hlt he)
        have e3 := same_yes' he
        clear he hfn0
        go_wp2_with fail
        exact bodyPost_ret (results_tmp2 rfl _ _ _) rfl ⟨⟨_, by rw [hF.out]; rfl⟩, hx.out.bel⟩
      · have e3 := same_no' he
        have he' := Lib.hid he
        clear hfn0
        go_wp2_with fail
        go_roundw
        case rel => exact ⟨j + 1, by omega, by go_num, fun r hr => by
          by_cases e : r = j
          · subst e; exact he'.out
          · exact hall.out r (by omega), hx.out⟩
        case measure => simp [intOf]; omega
    · have i1 : decide ((j : Int) < (g.ns : Int)) = false := decide_eq_false (by omega)
      have hF := Lib.hid (hno.out (fun e => hb'.out e.symm) (fun e => hi'.out e.symm) fun i hi => hall.out i (by omega))
      go_wp2_with fail
      exact bodyPost_ret (results_tmp2 rfl _ _ _) rfl ⟨⟨_, by rw [hF.out]; rfl⟩, hx.out.bel⟩
end Go.Proofs.YtecmoahadckomaaGreat
