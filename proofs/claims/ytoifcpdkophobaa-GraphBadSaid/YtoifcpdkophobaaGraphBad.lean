/- The law GraphBad: the plain law, the walk. -/
import Derived.Test.YtoifcpdkophobaaCycle
import Derived.Test.YtoifcpdkophobaaClosedR
namespace Go.Proofs.Ytoifcpdkophobaa
open Go.RowKit

theorem sumN_head (g : Nat → Int) (c : Nat) : sumN g (c + 1) = g 0 + sumN (fun i => g (i + 1)) c := by
  induction c with
  | zero => show 0 + g 0 = g 0 + 0; omega
  | succ c ih =>
    show sumN g (c + 1) + g (c + 1) = g 0 + (sumN (fun i => g (i + 1)) c + g (c + 1))
    rw [ih]; omega
theorem sumN_rev (c : Nat) : ∀ g : Nat → Int, sumN (fun i => g (c - 1 - i)) c = sumN g c := by
  induction c with
  | zero => intro g; rfl
  | succ c ih =>
    intro g
    rw [sumN_head]
    show g (c + 1 - 1 - 0) + sumN (fun i => g (c + 1 - 1 - (i + 1))) c = sumN g c + g c
    have : sumN (fun i => g (c + 1 - 1 - (i + 1))) c = sumN (fun i => g (c - 1 - i)) c := sumN_congr fun i hi => by rw [show c + 1 - 1 - (i + 1) = c - 1 - i by omega]
    rw [this, ih, show c + 1 - 1 - 0 = c by omega]; omega
theorem scan_pin {E : Nat → Ed} {s : BS} (h : ∀ v, -4611686018427387904 ≤ s.p v) : ∀ k, (scanTo E s k).out = false → ∀ v, -4611686018427387904 ≤ (scanTo E s k).s.p v := by
  intro k
  induction k with
  | zero => intro _; exact h
  | succ k ih =>
    intro ho v
    by_cases ho2 : (scanTo E s k).out = true
    · rw [scanTo, if_pos ho2] at ho; rw [ho2] at ho; cases ho
    · have ho3 : (scanTo E s k).out = false := by simpa using ho2
      rw [scan_succ ho3] at ho ⊢
      have h1 := ih ho3
      by_cases hd : (scanTo E s k).s.p (E k).src.toNat + (E k).wt < (scanTo E s k).s.p (E k).dst.toNat
      · by_cases h2 : (scanTo E s k).s.p (E k).src.toNat + (E k).wt < -4611686018427387904
        · rw [edge_out hd h2] at ho; cases ho
        · rw [edge_in hd (by omega)]
          show _ ≤ upd _ _ _ v
          by_cases e : v = (E k).dst.toNat
          · rw [e, upd_same]; omega
          · rw [upd_other _ _ e]; exact h1 v
      · rw [edge_ge (by omega)]; exact h1 v
theorem rounds_pin (E : Nat → Ed) (m : Nat) : ∀ r, (roundsTo E m r).out = false → ∀ v, -4611686018427387904 ≤ (roundsTo E m r).s.p v := by
  intro r
  induction r with
  | zero => intro _ v; show -4611686018427387904 ≤ (0 : Int); omega
  | succ r ih =>
    intro ho v
    rw [roundsTo] at ho ⊢
    by_cases h1 : (roundsTo E m r).out = true
    · rw [if_pos h1, h1] at ho; cases ho
    · rw [if_neg h1] at ho ⊢
      have h1' : (roundsTo E m r).out = false := by simpa using h1
      by_cases h2 : (roundsTo E m r).fell < 0
      · rw [if_pos h2]; exact ih h1' v
      · rw [if_neg h2] at ho ⊢
        exact scan_pin (ih h1') m ho v
theorem pot_pin {n : Int} {m : Nat} {E : Nat → Ed} (h : checkR n m E = 0) (hb : badR n m E = false) (v : Nat) : -4611686018427387904 ≤ potR n m E v := by
  obtain ⟨_, _, hE, _⟩ := check_ok h
  have hf : (relaxR n.toNat E m).fell < 0 := by unfold badR at hb; simp [h] at hb; exact hb
  unfold potR relaxR at *
  rcases rounds_inv (fun i hi => (hE i hi).2.2.1) (n.toNat + 1) with ⟨_, h1, _⟩ | ⟨ho, _, _⟩ | ⟨_, h1, _⟩
  · omega
  · exact rounds_pin E m _ ho v
  · omega
theorem pots_hold {n m : Nat} {E : Nat → Ed} (h : checkR n m E = 0) (hb : badR n m E = false) : holdsB n (potR n m E) m E = true := by
  obtain ⟨_, _, hE, _⟩ := check_ok h
  simp only [Int.toNat_natCast] at hE
  obtain ⟨_, hx⟩ := good_facts h hb
  refine holds_done ((numsB_iff _ _).2 fun i _ => ?_) ((hedsB_iff _ _ _ m).2 fun i hi => ?_) rfl
  · have h1 := pot_pin h hb i
    have h2 := pot_le n m E i
    exact mayB_true h1 (by omega)
  · obtain ⟨e0, e1, e2, e3, e4, e5⟩ := hE i hi
    have h1 := pot_pin h hb (E i).dst.toNat
    have h2 := pot_le n m E (E i).dst.toNat
    have h3 := pot_pin h hb (E i).src.toNat
    have h4 := pot_le n m E (E i).src.toNat
    have h5 := hx i hi
    unfold hedB atmB
    simp
    omega

theorem cyc_apart {n m : Nat} {E : Nat → Ed} {s : BS} {at_ c : Nat} (h : Cyc n m E s at_ c) {a b : Nat} (hab : a < b) (hb : b < c) : itr E s.b a at_ ≠ itr E s.b b at_ := by
  intro e
  have h1 : itr E s.b (c - b + a) at_ = at_ := by
    rw [itr_add, e, ← itr_add, show c - b + b = c by omega]; exact h.ret
  exact h.least (c - b + a) (by omega) (by omega) h1
theorem bad_law {n m : Nat} {E : Nat → Ed} {at_ c : Nat} (hck : checkR n m E = 0) (hb : badR n m E = true) (h : Cyc n m E (relaxR n E m).s at_ c) :
    ClosedP c m (fun i => (relaxR n E m).s.b (itr E (relaxR n E m).s.b (c - 1 - i) at_)) E ∧ sumN (wtsOf (fun i => (relaxR n E m).s.b (itr E (relaxR n E m).s.b (c - 1 - i) at_)) E) c < 0 := by
  obtain ⟨_, _, hE, hsum⟩ := check_ok hck
  simp only [Int.toNat_natCast] at hE
  have hf : 0 ≤ (relaxR n E m).fell := by unfold badR at hb; simp at hb; exact hb.2
  obtain ⟨⟨t, k, L, hI⟩, _⟩ := bad_chain (n := n) (fun i hi => (hE i hi).2.2.1) (check_sumN hck) hf
  generalize (relaxR n E m).s = s at *
  have hdst : ∀ j, (E (s.b (itr E s.b j at_)).toNat).dst = (itr E s.b j at_ : Nat) := fun j => by
    have h1 := h.by_ j
    rcases hI.rng (itr E s.b j at_) with h2 | ⟨_, _, h2⟩
    · omega
    · have := (hE (s.b (itr E s.b j at_)).toNat (by omega)).2.2.1; omega
  have hsrc : ∀ j, (E (s.b (itr E s.b j at_)).toNat).src = (itr E s.b (j + 1) at_ : Nat) := fun j => by
    have h1 := h.by_ j
    have := (hE (s.b (itr E s.b j at_)).toNat (by omega)).1
    show _ = (((E (s.b (itr E s.b j at_)).toNat).src.toNat : Nat) : Int)
    omega
  have hinj : ∀ i j, j < i → i < c → s.b (itr E s.b (c - 1 - j) at_) ≠ s.b (itr E s.b (c - 1 - i) at_) := fun i j h1 h2 e =>
    cyc_apart h (a := c - 1 - i) (b := c - 1 - j) (by omega) (by omega) (by_inj hI (h.by_ _).1 (h.by_ _).1 (by rw [e]))
  refine ⟨⟨by have := h.pos; omega, fun i _ => h.by_ _, hinj, ?_, fun i hi => ?_⟩, ?_⟩
  · refine (sumTo_iff (by omega) c).2 ⟨fun i hi => ?_, ?_⟩
    · have h1 := h.by_ (c - 1 - i)
      have := hE (s.b (itr E s.b (c - 1 - i) at_)).toNat (by omega)
      exact this.2.2.2.2
    · have h1 := ((sumTo_iff (by omega) m).1 hsum).2
      have h2 := sum_inj c (fun i => (s.b (itr E s.b (c - 1 - i) at_)).toNat) (fun i => absI (E i).wt + 1) m (fun i => by unfold absI; split <;> omega)
        (fun i _ => by have := h.by_ (c - 1 - i); omega)
        (fun i i' h1 h2 e => hinj i' i h1 h2 (by have a1 := h.by_ (c - 1 - i); have a2 := h.by_ (c - 1 - i'); omega))
      exact Int.le_trans h2 h1
  · show (E (s.b (itr E s.b (c - 1 - i) at_)).toNat).dst = (E (s.b (itr E s.b (c - 1 - (i + 1) % c) at_)).toNat).src
    rw [hdst, hsrc]
    by_cases e : i + 1 = c
    · rw [e, Nat.mod_self, show c - 1 - i = 0 by omega, show c - 1 - 0 + 1 = c by have := h.pos; omega, h.ret]; rfl
    · rw [Nat.mod_eq_of_lt (by omega), show c - 1 - (i + 1) + 1 = c - 1 - i by omega]
  · have h1 := cyc_neg hI h.pos (fun j _ => (h.by_ j).1) h.ret
    have h2 := sumN_rev c (fun i => wby E s.b (itr E s.b i at_))
    rw [← h2] at h1
    exact h1

set_option maxRecDepth 100000 in
set_option maxHeartbeats 1600000 in
theorem Bad_any (n : Int) (v : Value) (m : Nat) (E : Nat → Ed) (w : World) (hv : EdsAt w v m E) (hn0 : -9223372036854775808 ≤ n) (hn1 : n ≤ 9223372036854775807) :
    Calls Try.prog 7 #[.int .i64 n, v] w fun e w' => e = .returned (.bool true) ∧ Below w.heap.size w w' := by
  have hv' := Lib.hid hv
  obtain ⟨A, c, rfl, hm, _⟩ := hv
  by_cases hg : 60 < n ∨ 200 < m
  · have hg' : Hid ((decide (60 < n) || decide (200 < m)) = true) := by unfold Hid; simp; omega
    clear hg
    go_enter Try.func7, Try.ntmps7
    go_wp2_with fail
    refine (Great_any n A m c w hm).mono ?_
    rintro e w1 ⟨rfl, rfl⟩
    rw [hg'.out]
    go_wp2_with fail
    refine (wakes24_any w).mono ?_
    rintro e w1 ⟨rfl, hb⟩
    go_wp2
    go_ret
    exact ⟨rfl, hb⟩
  have hg' : Hid ((decide (60 < n) || decide (200 < m)) = false) := by unfold Hid; simp; omega
  have hm2 : m ≤ 200 := by omega
  have hn6 : n ≤ 60 := by omega
  clear hg
  by_cases hck : checkR n m E = 0
  · obtain ⟨k0, _⟩ := check_ok hck
    obtain ⟨k, rfl⟩ := Int.eq_ofNat_of_zero_le k0
    cases hbd : badR k m E with
    | true =>
      have hlen := Lib.hid (bad_len hbd)
      have hck' := Lib.hid hck
      have hbd' := Lib.hid hbd
      clear hck hbd
      go_enter Try.func7, Try.ntmps7
      go_wp2_with fail
      refine (Great_any k A m c w hm).mono ?_
      rintro e w1 ⟨rfl, rfl⟩
      rw [hg'.out]
      go_wp2_with fail
      refine (Pots_any k _ m E w hv'.out (by omega) (by omega) (by omega)).mono ?_
      rintro e w2 ⟨p, rfl, hp, hb2⟩
      rw [hck'.out, hbd'.out]
      rw [hlen.out] at hp
      obtain ⟨A3, c3, rfl, _⟩ := hp
      go_wp2_with fail
      refine (Cycle_yes k _ m E w2 (hv'.out.below hb2) (by omega) hbd'.out).mono ?_
      rintro e w3 ⟨u, a0, cc, rfl, hcyc, hu, hb3⟩
      have hb23 := hb2.trans (hb3.mono hb2.size)
      obtain ⟨l1, l2⟩ := bad_law hck'.out hbd'.out hcyc
      have l1' := Lib.hid l1
      have hcl := hcyc.le
      have hcp := hcyc.pos
      generalize (fun i => (relaxR k E m).s.b (itr E (relaxR k E m).s.b (cc - 1 - i) a0)) = F at *
      have hu' := Lib.hid hu
      clear hcyc l1 hb2 hb3 hlen hu
      go_wp2_with fail
      refine (RClosed_any _ _ m cc E F w3 (hv'.out.below hb23) hu'.out (by omega)).mono ?_
      rintro e w4 ⟨r, rfl, hpost, hb4⟩
      have hb24 := hb23.trans (hb4.mono hb23.size)
      obtain rfl : r = .tuple #[.int .i64 (sumN (wtsOf F E) cc), .bool true] := by
        rcases hpost with ⟨_, h⟩ | ⟨h, _⟩
        · exact h
        · exact absurd l1'.out h
      generalize sumN (wtsOf F E) cc = S at *
      have dS : decide (S < 0) = true := by simpa using l2
      clear hpost
      go_wp2_with fail
      refine (wakes24_any _).mono ?_
      rintro e w11 ⟨rfl, hb5⟩
      go_wp2
      go_ret
      exact ⟨rfl, hb24.trans (hb5.mono hb24.size)⟩
    | false =>
      obtain ⟨hlen, _⟩ := good_facts hck hbd
      simp only [Int.toNat_natCast] at hlen
      have hh := Lib.hid (pots_hold hck hbd)
      have hlen' := Lib.hid hlen
      have hck' := Lib.hid hck
      have hbd' := Lib.hid hbd
      clear hck hbd hlen
      go_enter Try.func7, Try.ntmps7
      go_wp2_with fail
      refine (Great_any k A m c w hm).mono ?_
      rintro e w1 ⟨rfl, rfl⟩
      rw [hg'.out]
      go_wp2_with fail
      refine (Pots_any k _ m E w hv'.out (by omega) (by omega) (by omega)).mono ?_
      rintro e w2 ⟨p, rfl, hp, hb2⟩
      rw [hck'.out, hbd'.out]
      rw [hlen'.out] at hp
      go_wp2_with fail
      refine (Cycle_no k _ m E w2 (hv'.out.below hb2) (by omega) (by omega) (by omega) hbd'.out).mono ?_
      rintro e w3 ⟨rfl, hb3⟩
      have hb23 := hb2.trans (hb3.mono hb2.size)
      have hp := hp.below hb3
      have hp' := Lib.hid hp
      obtain ⟨A3, c3, rfl, _, _, hcl⟩ := hp
      have hcl' := Lib.hid hcl
      clear hcl hb2 hb3
      go_wp2
      go_loop [12] (fun i => ∃ i' : Nat, i' ≤ k ∧ i = .int .i64 i') (fun i => k - (intOf i).toNat)
      case atStart => exact ⟨0, Nat.zero_le _, rfl⟩
      case round =>
        obtain ⟨i, hi, rfl⟩ := hrel
        by_cases hlt : i < k
        · obtain ⟨b3, o3, rfl, hbl3, hcs3⟩ := hcl'.out (by omega)
          have q1 := hcs3 i hlt
          have hle := pot_le k m E i
          clear hcs3
          generalize potR k m E i = y at *
          go_wp2
          go_round
          case rel => exact ⟨i + 1, by omega, by go_num⟩
          case measure => simp [intOf]; omega
        · go_wp2_with fail
          refine (RHolds_any _ _ m k E _ w3 (hv'.out.below hb23) hp'.out).mono ?_
          rintro e w4 ⟨rfl, hb4⟩
          rw [hh.out]
          have hb24 := hb23.trans (hb4.mono hb23.size)
          go_wp2_with fail
          refine (wakes24_any _).mono ?_
          rintro e w11 ⟨rfl, hb5⟩
          go_wp2
          go_ret
          exact ⟨rfl, hb24.trans (hb5.mono hb24.size)⟩
  · have hck' : (checkR n m E != 0) = true := by simpa using hck
    have hbd : badR n m E = false := by unfold badR; simp [hck]
    have hln : lenR n m E = 0 := by unfold lenR; simp [hck]
    have hbd' := Lib.hid hbd
    have hln' := Lib.hid hln
    clear hck hbd hln
    go_enter Try.func7, Try.ntmps7
    go_wp2_with fail
    refine (Great_any n A m c w hm).mono ?_
    rintro e w1 ⟨rfl, rfl⟩
    rw [hg'.out]
    go_wp2_with fail
    refine (Pots_any n _ m E w hv'.out (by omega) (by omega) (by omega)).mono ?_
    rintro e w2 ⟨p, rfl, hp, hb2⟩
    rw [hln'.out] at hp
    obtain ⟨A3, c3, rfl, _⟩ := hp
    go_wp2_with fail
    refine (Cycle_no n _ m E w2 (hv'.out.below hb2) (by omega) (by omega) (by omega) hbd'.out).mono ?_
    rintro e w3 ⟨rfl, hb3⟩
    have hb23 := hb2.trans (hb3.mono hb2.size)
    go_wp2_with fail
    refine (wakes24_any _).mono ?_
    rintro e w11 ⟨rfl, hb5⟩
    go_wp2
    go_ret
    exact ⟨rfl, hb23.trans (hb5.mono hb23.size)⟩
end Go.Proofs.Ytoifcpdkophobaa
