/- sexpr.symbol, numeral, keyword. -/
import Derived.Test.YthkbekfdjfmmbaaParse
namespace Go.Proofs.Ythkbekfdjfmmbaa
open Go.RowKit
set_option maxRecDepth 100000

theorem parse_any (s : ByteArray) (w : World) (hs : StrR s) : Calls Try.prog 108 #[.string s] w fun e w' => ParsedP s e ∧ Below w.heap.size w w' := by
  by_cases h : s.size = 0 ∨ 1 < s.size ∧ (byteAt s 0).toNat = 48
  · exact parse_no s w hs h
  · exact parse_go s w hs (fun h' => h (.inl h')) (fun h' => h (.inr h'))
def symB (n : Nat) (t : ByteArray) : Bool := decide (n = 0) && mayS t
def nmB (n : Nat) (t : ByteArray) : Bool := decide (n = 0) && numS t && decide (t.size ≤ 100)
def kwB (n : Nat) (t : ByteArray) : Bool := decide (n = 0) && (upTo t.size fun i => signB (byteAt t i)) && decide (t.size ≠ 0) && decide (t.size ≤ 100)
theorem symbol_any (b o : Nat) (t : ByteArray) (A : Option Addr) (n c : Nat) (w : World) (c1 : w.cell? ⟨b, o + 1, none⟩ = some (.string t)) (c2 : w.cell? ⟨b, o + 2, none⟩ = some (.slice A n c)) (ht : StrR t) :
    Calls Try.prog 100 #[.pointer (some ⟨b, o, none⟩)] w fun e w' => e = .returned (.bool (symB n t)) ∧ w = w' := by
  by_cases h0 : n = 0
  · have hR : Hid (symB n t = mayS t) := by unfold Hid symB; rw [decide_eq_true h0]; rfl
    have d0 : ((n : Int) == 0) = true := by simp [h0]
    have d1 : (n == 0) = true := by simp [h0]
    clear h0
    go_enter Try.func100, Try.ntmps100
    go_wp2_with (go_at_call 62; refine (LMay_any _ _ ht).mono ?_; rintro e w' ⟨rfl, rfl⟩)
    go_ret
    exact ⟨ret_bool hR.out.symm, rfl⟩
  · have hR : Hid (symB n t = false) := by unfold Hid symB; rw [decide_eq_false h0]; rfl
    have d0 : ((n : Int) == 0) = false := by simpa using h0
    have d1 : (n == 0) = false := by simpa using h0
    clear h0
    go_enter Try.func100, Try.ntmps100
    go_wp2_with fail
    go_ret
    exact ⟨ret_bool hR.out.symm, rfl⟩
set_option maxHeartbeats 1000000 in
theorem numeral_any (b o : Nat) (t : ByteArray) (A : Option Addr) (n c : Nat) (w : World) (hb : b < w.heap.size) (c1 : w.cell? ⟨b, o + 1, none⟩ = some (.string t)) (c2 : w.cell? ⟨b, o + 2, none⟩ = some (.slice A n c)) (ht : StrR t) :
    Calls Try.prog 101 #[.pointer (some ⟨b, o, none⟩)] w fun e w' => e = .returned (.bool (nmB n t)) ∧ Below w.heap.size w w' := by
  have hp := Lib.hid (parse_any t w ht)
  have hcc : ∀ w', Below w.heap.size w w' → w'.cell? ⟨b, o + 1, none⟩ = some (.string t) ∧ w'.cell? ⟨b, o + 2, none⟩ = some (.slice A n c) := fun w' h => ⟨(h.cell (p := ⟨b, o + 1, none⟩) hb).trans c1, (h.cell (p := ⟨b, o + 2, none⟩) hb).trans c2⟩
  have hcc' := Lib.hid hcc
  clear hcc
  have hs := ht
  unfold StrR at hs
  go_enter Try.func101, Try.ntmps101
  go_wp2_with fail
  refine hp.out.mono ?_
  rintro e w1 ⟨⟨v, er, rfl, her⟩, hb1⟩
  obtain ⟨k1, k2⟩ := hcc'.out _ hb1
  have hbw := Lib.hid hb1
  clear hb1 c1 c2 hp hcc'
  by_cases h0 : n = 0
  · have d0 : ((n : Int) == 0) = true := by simp [h0]
    have d1 : (n == 0) = true := by simp [h0]
    cases hn : numS t with
    | false =>
      have hR : Hid (nmB n t = false) := by unfold Hid nmB; rw [hn]; simp
      rw [hn] at her
      clear h0 hn
      go_wp2_with fail
      go_ret
      exact ⟨ret_bool hR.out.symm, hbw.out⟩
    | true =>
      by_cases hl : t.size ≤ 100
      · have hR : Hid (nmB n t = true) := by unfold Hid nmB; rw [hn, decide_eq_true h0, decide_eq_true hl]; rfl
        have d2 : decide ((t.size : Int) ≤ 100) = true := decide_eq_true (by omega)
        rw [hn] at her
        clear h0 hn hl
        go_wp2_with fail
        go_ret
        exact ⟨ret_bool hR.out.symm, hbw.out⟩
      · have hR : Hid (nmB n t = false) := by unfold Hid nmB; rw [decide_eq_false hl]; simp
        have d2 : decide ((t.size : Int) ≤ 100) = false := decide_eq_false (by omega)
        rw [hn] at her
        clear h0 hn hl
        go_wp2_with fail
        go_ret
        exact ⟨ret_bool hR.out.symm, hbw.out⟩
  · have hR : Hid (nmB n t = false) := by unfold Hid nmB; rw [decide_eq_false h0]; rfl
    have d0 : ((n : Int) == 0) = false := by simpa using h0
    have d1 : (n == 0) = false := by simpa using h0
    clear h0 her
    go_wp2_with fail
    go_ret
    exact ⟨ret_bool hR.out.symm, hbw.out⟩
set_option maxHeartbeats 2000000 in
theorem keyword_any (b o : Nat) (t : ByteArray) (A : Option Addr) (n c : Nat) (w : World) (hb : b < w.heap.size) (c1 : w.cell? ⟨b, o + 1, none⟩ = some (.string t)) (c2 : w.cell? ⟨b, o + 2, none⟩ = some (.slice A n c)) (ht : StrR t) :
    Calls Try.prog 102 #[.pointer (some ⟨b, o, none⟩)] w fun e w' => e = .returned (.bool (kwB n t)) ∧ Below w.heap.size w w' := by
  have hb1 := bytesWorld_below w 5 t
  have k1 := (hb1.cell (p := ⟨b, o + 1, none⟩) hb).trans c1
  have k2 := (hb1.cell (p := ⟨b, o + 2, none⟩) hb).trans c2
  have hbw := Lib.hid hb1
  clear hb1
  have hcv := fun w => Lib.run_convert_string_bytes (P := Try.prog) w 9 134 5 t Try.underlying9 Try.underlying134 Try.underlying5
  have hk := Lib.hid fun c => has_kw _ t _ (bytes_made w t c) ht
  have hs := ht
  unfold StrR at hs
  have hR : Hid (kwB n t = (decide (n = 0) && (upTo t.size fun i => signB (byteAt t i)) && decide (t.size ≠ 0) && decide (t.size ≤ 100))) := rfl
  generalize (upTo t.size fun i => signB (byteAt t i)) = u at *
  have hsz := isEmpty_size t
  by_cases h0 : n = 0
  · have d0 : ((n : Int) == 0) = true := by simp [h0]
    have d1 : (n == 0) = true := by simp [h0]
    cases u with
    | false =>
      have hF : Hid (kwB n t = false) := by unfold Hid; rw [hR.out]; simp
      clear h0 hsz
      go_enter Try.func102, Try.ntmps102
      go_wp2_with (go_at_call 109; (with_reducible refine (hk.out _).mono ?_); rintro e w' ⟨rfl, rfl⟩)
      go_ret
      exact ⟨ret_bool hF.out.symm, hbw.out⟩
    | true =>
      by_cases he : t.size = 0
      · have hF : Hid (kwB n t = false) := by unfold Hid; rw [hR.out, show decide (t.size ≠ 0) = false from decide_eq_false (fun h => h he)]; simp
        have e0 : t.toList.isEmpty = true := by rw [hsz]; exact decide_eq_true he
        clear h0 hsz he
        go_enter Try.func102, Try.ntmps102
        go_wp2_with (go_at_call 109; (with_reducible refine (hk.out _).mono ?_); rintro e w' ⟨rfl, rfl⟩)
        go_ret
        exact ⟨ret_bool hF.out.symm, hbw.out⟩
      · have e0 : t.toList.isEmpty = false := by rw [hsz]; exact decide_eq_false he
        by_cases hl : t.size ≤ 100
        · have hF : Hid (kwB n t = true) := by unfold Hid; rw [hR.out, show decide (t.size ≠ 0) = true from decide_eq_true he, decide_eq_true h0, decide_eq_true hl]; rfl
          have d2 : decide ((t.size : Int) ≤ 100) = true := decide_eq_true (by omega)
          clear h0 hsz he hl
          go_enter Try.func102, Try.ntmps102
          go_wp2_with (go_at_call 109; (with_reducible refine (hk.out _).mono ?_); rintro e w' ⟨rfl, rfl⟩)
          go_ret
          exact ⟨ret_bool hF.out.symm, hbw.out⟩
        · have hF : Hid (kwB n t = false) := by unfold Hid; rw [hR.out, decide_eq_false hl]; simp
          have d2 : decide ((t.size : Int) ≤ 100) = false := decide_eq_false (by omega)
          clear h0 hsz he hl
          go_enter Try.func102, Try.ntmps102
          go_wp2_with (go_at_call 109; (with_reducible refine (hk.out _).mono ?_); rintro e w' ⟨rfl, rfl⟩)
          go_ret
          exact ⟨ret_bool hF.out.symm, hbw.out⟩
  · have hF : Hid (kwB n t = false) := by unfold Hid; rw [hR.out, decide_eq_false h0]; rfl
    have d0 : ((n : Int) == 0) = false := by simpa using h0
    have d1 : (n == 0) = false := by simpa using h0
    clear h0 hsz
    cases u with
    | false =>
      go_enter Try.func102, Try.ntmps102
      go_wp2_with (go_at_call 109; (with_reducible refine (hk.out _).mono ?_); rintro e w' ⟨rfl, rfl⟩)
      go_ret
      exact ⟨ret_bool hF.out.symm, hbw.out⟩
    | true =>
      go_enter Try.func102, Try.ntmps102
      go_wp2_with (go_at_call 109; (with_reducible refine (hk.out _).mono ?_); rintro e w' ⟨rfl, rfl⟩)
      go_ret
      exact ⟨ret_bool hF.out.symm, hbw.out⟩
end Go.Proofs.Ythkbekfdjfmmbaa
