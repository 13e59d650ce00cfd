/- lex.Sign, num.Parse, sexpr.symbol, numeral, keyword. -/
import Derived.Test.YthkbekfdjfmmbaaName
import Derived.Test.YthkbekfdjfmmbaaFind
import Derived.Lib.ConvBytes
namespace Go.Proofs.Ythkbekfdjfmmbaa
open Go.RowKit
set_option maxRecDepth 100000

/-- ~ ! @ $ % ^ & * _ - + = < > . ? / -/
def signN (c : Nat) : Bool := decide (65 ≤ c ∧ c ≤ 90) || decide (97 ≤ c ∧ c ≤ 122) || decide (48 ≤ c ∧ c ≤ 57) || [126, 33, 64, 36, 37, 94, 38, 42, 95, 45, 43, 61, 60, 62, 46, 63, 47].contains c
def signB (c : UInt8) : Bool := signN c.toNat
theorem sign_low : ∀ c : Fin 64, (bits BinOp.and IntKind.u64 (17582031444648132608 / 2 ^ c.val) 1 == 1) = signN c.val := by decide +kernel
theorem sign_high : ∀ c : Fin 64, (bits BinOp.and IntKind.u64 (5188146765496319999 / 2 ^ c.val) 1 == 1) = signN (c.val + 64) := by decide +kernel
theorem sign_none {c : Nat} (h : 128 ≤ c) : signN c = false := by
  have h1 : [126, 33, 64, 36, 37, 94, 38, 42, 95, 45, 43, 61, 60, 62, 46, 63, 47].contains c = false := by
    rw [Bool.eq_false_iff]
    intro h2
    simp at h2
    omega
  unfold signN
  rw [h1, decide_eq_false (by omega), decide_eq_false (by omega), decide_eq_false (by omega)]; rfl
theorem Sign_any (c : UInt8) (w : World) : Calls Try.prog 111 #[.int .u8 c.toNat] w fun e w' => e = .returned (.bool (signB c)) ∧ w = w' := by
  have hc : (c.toNat : Int) < 256 := by have := c.toNat_lt; omega
  by_cases h1 : c.toNat < 64
  · have hs := Lib.hid (sign_low ⟨c.toNat, h1⟩)
    have h1' : (c.toNat : Int) < 64 := by omega
    go_enter Try.func111, Try.ntmps111
    go_wp2
    go_ret
    exact ⟨ret_bool hs.out, rfl⟩
  · have h1' : ¬ (c.toNat : Int) < 64 := by omega
    by_cases h2 : c.toNat < 128
    · have hs := Lib.hid (sign_high ⟨c.toNat - 64, by omega⟩)
      have he : Hid (c.toNat - 64 + 64 = c.toNat) := by unfold Hid; omega
      have h2' : (c.toNat : Int) < 128 := by omega
      go_enter Try.func111, Try.ntmps111
      go_wp2
      go_ret
      exact ⟨ret_bool (hs.out.trans (by show signN (c.toNat - 64 + 64) = signN c.toNat; rw [he.out])), rfl⟩
    · have h2' : ¬ (c.toNat : Int) < 128 := by omega
      have hs := Lib.hid (sign_none (c := c.toNat) (by omega))
      go_enter Try.func111, Try.ntmps111
      go_wp2
      go_ret
      exact ⟨ret_bool hs.out.symm, rfl⟩
theorem kw1_any (c : UInt8) (w : World) : Calls Try.prog 110 #[.int .u8 c.toNat] w fun e w' => e = .returned (.bool (!signB c)) ∧ w = w' := by
  go_enter Try.func110, Try.ntmps110
  go_wp2_with (go_at_call 111; refine (Sign_any _ _).mono ?_; rintro e w' ⟨rfl, rfl⟩)
  go_ret
  exact ⟨rfl, rfl⟩

/-- The slice value v reads, in w, as the bytes of s. -/
def BytesAt (w : World) (v : Value) (s : ByteArray) : Prop := ∃ b c, v = .slice (some ⟨b, 0, none⟩) s.size c ∧ b < w.heap.size ∧ ∀ i, i < s.size → w.cell? ⟨b, i, none⟩ = some (.int .u8 (byteAt s i).toNat)
theorem BytesAt.below {w w' : World} {v : Value} {s : ByteArray} (h : BytesAt w v s) (hb : Below w.heap.size w w') : BytesAt w' v s := by
  obtain ⟨b, c, rfl, hlt, hc⟩ := h
  exact ⟨b, c, rfl, Nat.lt_of_lt_of_le hlt hb.size, fun i hi => (hb.cell (p := ⟨b, i, none⟩) hlt).trans (hc i hi)⟩
theorem bytesWorld_below (w : World) (e : TypeId) (s : ByteArray) : Below w.heap.size w (Lib.bytesWorld w e s) :=
  ⟨rfl, rfl, rfl, by rw [Lib.bytesWorld_size]; omega, fun b hb => Lib.bytesWorld_at_old w e s b hb⟩
theorem bytes_made (w : World) (s : ByteArray) (c : Nat) : BytesAt (Lib.bytesWorld w 5 s) (.slice (some ⟨w.heap.size, 0, none⟩) s.size c) s :=
  ⟨_, _, rfl, by rw [Lib.bytesWorld_size]; omega, fun i hi => Lib.bytesWorld_cell w _ s i hi⟩
set_option maxHeartbeats 1000000 in
theorem idx_kw (v : Value) (s : ByteArray) (w : World) (hv : BytesAt w v s) (hs : StrR s) :
    Calls Try.prog 118 #[v, .func (.func 110) #[] #[]] w fun e w' => e = .returned (.int .i64 (firstI s.size fun i => !signB (byteAt s i))) ∧ w = w' := by
  unfold StrR at hs
  obtain ⟨b, c, rfl, hlt, hcs⟩ := hv
  have hcs' := Lib.hid hcs
  clear hcs
  go_enter Try.func118, Try.ntmps118
  go_wp2_with fail
  go_loopw [5, 8] (fun _ i wr => ∃ j : Nat, j ≤ s.size ∧ i = .int .i64 j ∧ Hid (∀ k, k < j → (!signB (byteAt s k)) = false) ∧ w = wr) (fun _ i _ => s.size - (intOf i).toNat)
  case atStart => exact ⟨0, Nat.zero_le _, rfl, fun k hk => absurd hk (Nat.not_lt_zero _), rfl⟩
  case round =>
    obtain ⟨j, hj, rfl, hall, rfl⟩ := hrel
    by_cases hlt : j < s.size
    · have i1 : decide ((j : Int) < (s.size : Int)) = true := decide_eq_true (by omega)
      have cj := hcs'.out j hlt
      cases hq : (!signB (byteAt s j)) with
      | true =>
        have hF := Lib.hid (firstI_hit (p := fun i => !signB (byteAt s i)) hlt hall.out hq)
        have hcl := Lib.hid (kw1_any (byteAt s j) w)
        rw [hq] at hcl
        clear hq
        go_wp2_with (go_at_call 110; (with_reducible refine hcl.out.mono ?_); rintro e w2 ⟨rfl, rfl⟩)
        go_ret
        exact ⟨ret_int hF.out.symm, rfl⟩
      | false =>
        have hq' := Lib.hid hq
        have hcl := Lib.hid (kw1_any (byteAt s j) w)
        rw [hq] at hcl
        clear hq
        go_wp2_with (go_at_call 110; (with_reducible refine hcl.out.mono ?_); rintro e w2 ⟨rfl, rfl⟩)
        go_roundw
        case rel => exact ⟨j + 1, by omega, by go_num, fun k hk => by
          by_cases e : k = j
          · subst e; exact hq'.out
          · exact hall.out k (by omega), trivial⟩
        case measure => simp [intOf]; omega
    · have i1 : decide ((j : Int) < (s.size : Int)) = false := decide_eq_false (by omega)
      have hF := Lib.hid (firstI_none (n := s.size) (p := fun i => !signB (byteAt s i)) fun i hi => hall.out i (by omega))
      go_wp2_with fail
      go_ret
      exact ⟨ret_int hF.out.symm, rfl⟩
theorem upTo_first (n : Nat) (p : Nat → Bool) : decide (0 ≤ firstI n p) = !upTo n fun i => !p i := by
  rcases firstI_cases n p with ⟨h1, h2⟩ | ⟨j, hj, h1, h2, _⟩
  · rw [h1, upTo_yes fun i hi => by rw [h2 i hi]; rfl]; rfl
  · rw [h1, upTo_no hj (by rw [h2]; rfl), decide_eq_true (by omega)]; rfl
theorem has_kw (v : Value) (s : ByteArray) (w : World) (hv : BytesAt w v s) (hs : StrR s) :
    Calls Try.prog 109 #[v, .func (.func 110) #[] #[]] w fun e w' => e = .returned (.bool (!upTo s.size fun i => signB (byteAt s i))) ∧ w = w' := by
  have hI := Lib.hid (idx_kw v s w hv hs)
  have hF := Lib.hid ((upTo_first s.size fun i => !signB (byteAt s i)).trans (by rw [upTo_congr fun i _ => Bool.not_not _]))
  generalize (firstI s.size fun i => !signB (byteAt s i)) = r at *
  go_enter Try.func109, Try.ntmps109
  go_wp2_with (go_at_call 118; refine hI.out.mono ?_; rintro e w' ⟨rfl, rfl⟩)
  go_ret
  exact ⟨ret_bool hF.out, rfl⟩
end Go.Proofs.Ythkbekfdjfmmbaa
