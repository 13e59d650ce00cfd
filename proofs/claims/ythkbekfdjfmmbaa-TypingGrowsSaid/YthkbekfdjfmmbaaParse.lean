/- num.Parse: whether a text is a numeral. -/
import Derived.Test.YthkbekfdjfmmbaaSexA
namespace Go.Proofs.Ythkbekfdjfmmbaa
open Go.RowKit
set_option maxRecDepth 100000

def digB (c : UInt8) : Bool := decide (48 ≤ c.toNat ∧ c.toNat ≤ 57)
def numS (s : ByteArray) : Bool := decide (s.size ≠ 0) && !(decide (1 < s.size) && decide ((byteAt s 0).toNat = 48)) && upTo s.size fun i => digB (byteAt s i)
theorem isEmpty_size (s : ByteArray) : s.toList.isEmpty = decide (s.size = 0) := by
  rw [Go.ByteArray.toList_eq]
  obtain ⟨⟨l⟩⟩ := s
  cases l with
  | nil => rfl
  | cons a l => rfl
theorem byteAt_get (s : ByteArray) (j : Nat) (h : j < s.size) : byteAt s j = s[j] := by unfold byteAt; simp [List.getD, h]; rfl
/-- What num.Parse hands back: the error tells whether it is a numeral. -/
def ParsedP (s : ByteArray) (e : Ending) : Prop := ∃ n er : Int, e = .returned (.tuple #[.int .i64 n, .int .i64 er]) ∧ (er != 20) = numS s
theorem numS_no {s : ByteArray} {i : Nat} (hi : i < s.size) (h : digB (byteAt s i) = false) : numS s = false := by unfold numS; rw [upTo_no hi h, Bool.and_false]

/-- The two boxes that the closure writes. -/
def PInv (w x : World) : Prop := ∃ n : Int, ∃ ov : Bool, (0 ≤ n ∧ n ≤ 4611686018427387904) ∧ x.cell? ⟨w.heap.size, 0, none⟩ = some (.int .i64 n) ∧ x.cell? ⟨w.heap.size + 1, 0, none⟩ = some (.bool ov) ∧
  x.frozen? ⟨w.heap.size, 0, none⟩ = false ∧ x.frozen? ⟨w.heap.size + 1, 0, none⟩ = false ∧ w.heap.size + 1 < x.heap.size ∧ Below w.heap.size w x
theorem PInv.num {w x : World} (h : PInv w x) {n : Int} (hn : 0 ≤ n ∧ n ≤ 4611686018427387904) : PInv w (x.setCell ⟨w.heap.size, 0, none⟩ (.int .i64 n)) := by
  obtain ⟨_, ov, _, c0, c1, f0, f1, hz, hb⟩ := h
  exact ⟨n, ov, hn, World.cell?_setCell_same' _ _ _ (by rw [c0]; rfl), (World.cell?_setCell_other _ _ _ _ (by intro h; injection h; omega)).trans c1, (World.frozen?_setCell _ _ _ _).trans f0, (World.frozen?_setCell _ _ _ _).trans f1, by simpa using hz, hb.setCell (Nat.le_refl _) _⟩
theorem PInv.over {w x : World} (h : PInv w x) (b : Bool) : PInv w (x.setCell ⟨w.heap.size + 1, 0, none⟩ (.bool b)) := by
  obtain ⟨n, _, hn, c0, c1, f0, f1, hz, hb⟩ := h
  exact ⟨n, b, hn, (World.cell?_setCell_other _ _ _ _ (by intro h; injection h; omega)).trans c0, World.cell?_setCell_same' _ _ _ (by rw [c1]; rfl), (World.frozen?_setCell _ _ _ _).trans f0, (World.frozen?_setCell _ _ _ _).trans f1, by simpa using hz, hb.setCell (by show w.heap.size ≤ w.heap.size + 1; omega) _⟩
def PutP (w x : World) (e : Ending) (w' : World) : Prop := e = .returned (.tuple #[]) ∧ PInv w w' ∧ (∀ p : Addr, p.block ≠ w.heap.size → p.block ≠ w.heap.size + 1 → w'.cell? p = x.cell? p) ∧ x.heap.size ≤ w'.heap.size
theorem put_any (w x : World) (d : Int) (hd : 0 ≤ d ∧ d ≤ 15) (h : PInv w x) :
    Calls Try.prog 117 #[.int .i64 d, .pointer (some ⟨w.heap.size, 0, none⟩), .pointer (some ⟨w.heap.size + 1, 0, none⟩)] x (PutP w x) := by
  have hI := Lib.hid h
  obtain ⟨n, ov, ⟨n0, n1⟩, c0, c1, f0, f1, hz, hb⟩ := h
  obtain ⟨d0, d1⟩ := hd
  have hb' := Lib.hid hb
  clear hb
  by_cases hn : n > (4611686018427387904 - d) / 10
  · have g0 : decide ((4611686018427387904 - d) / 10 < n) = true := decide_eq_true hn
    clear hn
    go_enter Try.func117, Try.ntmps117
    go_wp2
    go_end0
    exact ⟨rfl, hI.out.over true, fun p _ h2 => World.cell?_setCell_other _ _ _ _ (fun h => h2 (by rw [← h])), by simp⟩
  · have g0 : decide ((4611686018427387904 - d) / 10 < n) = false := decide_eq_false hn
    have hn' : n * 10 + d ≤ 4611686018427387904 := by omega
    clear hn
    go_enter Try.func117, Try.ntmps117
    go_wp2
    go_end0
    exact ⟨rfl, hI.out.num ⟨by omega, hn'⟩, fun p h1 _ => World.cell?_setCell_other _ _ _ _ (fun h => h1 (by rw [← h])), by simp⟩
theorem parse_no (s : ByteArray) (w : World) (hs : StrR s) (h : s.size = 0 ∨ 1 < s.size ∧ (byteAt s 0).toNat = 48) : Calls Try.prog 108 #[.string s] w fun e w' => ParsedP s e ∧ Below w.heap.size w w' := by
  have hno : Hid (numS s = false) := by
    unfold Hid numS
    rcases h with h | ⟨h1, h2⟩
    · rw [decide_eq_false (fun h' => h' h)]; rfl
    · rw [decide_eq_true h1, decide_eq_true h2]; simp
  unfold StrR at hs
  by_cases h0 : s.size = 0
  · have e0 : s.toList.isEmpty = true := by rw [isEmpty_size]; exact decide_eq_true h0
    clear h h0
    go_enter Try.func108, Try.ntmps108
    go_wp2
    go_ret2
    exact ⟨⟨0, 20, rfl, hno.out.symm⟩, Below.refl _ _⟩
  · have e0 : s.toList.isEmpty = false := by rw [isEmpty_size]; exact decide_eq_false h0
    obtain ⟨h1, h2⟩ : 1 < s.size ∧ (byteAt s 0).toNat = 48 := by
      rcases h with h | h
      · exact absurd h h0
      · exact h
    have d0 : decide (1 < s.size) = true := decide_eq_true h1
    have d1 : decide (1 < (s.size : Int)) = true := decide_eq_true (by omega)
    have hlt : 0 < s.size := by omega
    have b0 : (s[0].toNat : Int) = 48 := by rw [byteAt_get s 0 hlt] at h2; omega
    have b1 : ((s[0].toNat : Int) == 48) = true := by simpa using b0
    have hb0 := Lib.hid b0
    clear h h0 h1 h2 b0
    go_enter Try.func108, Try.ntmps108
    go_wp2
    go_ret2
    exact ⟨⟨0, 20, rfl, hno.out.symm⟩, Below.refl _ _⟩
def digI (c : Int) : Bool := decide (48 ≤ c ∧ c ≤ 57)
theorem PInv.start (w : World) : PInv w ((w.alloc (.cells #[.int .i64 0] 3)).alloc (.cells #[.bool false] 4)) :=
  ⟨0, false, by omega, (World.cell?_alloc_lt _ _ _ (by simp)).trans (by simp), by simp, by simp, by simp, by simp, ((Below.refl _ _).alloc (Nat.le_refl _) _).alloc (by simp) _⟩
theorem PInv.bytes {w x : World} (h : PInv w x) (e : TypeId) (s : ByteArray) : PInv w (Lib.bytesWorld x e s) := by
  obtain ⟨n, ov, hn, c0, c1, f0, f1, hz, hb⟩ := h
  have hbw := bytesWorld_below x e s
  exact ⟨n, ov, hn, (hbw.cell (p := ⟨w.heap.size, 0, none⟩) (by show w.heap.size < _; omega)).trans c0, (hbw.cell (p := ⟨w.heap.size + 1, 0, none⟩) hz).trans c1, (hbw.frozen (p := ⟨w.heap.size, 0, none⟩) (by show w.heap.size < _; omega)).trans f0, (hbw.frozen (p := ⟨w.heap.size + 1, 0, none⟩) hz).trans f1,
    by have := hbw.size; omega, hb.trans (hbw.mono (by omega))⟩
theorem byte_and (c : UInt8) : 0 ≤ wrap64 (bits BinOp.and IntKind.u8 c.toNat 15) ∧ wrap64 (bits BinOp.and IntKind.u8 c.toNat 15) ≤ 15 := by
  have h : ∀ c : Fin 256, (0 ≤ wrap64 (bits BinOp.and IntKind.u8 (c.val : Int) 15) ∧ wrap64 (bits BinOp.and IntKind.u8 (c.val : Int) 15) ≤ 15) := by decide +kernel
  exact h ⟨c.toNat, c.toNat_lt⟩
set_option maxHeartbeats 2000000 in
theorem parse_go (s : ByteArray) (w : World) (hs : StrR s) (h0 : s.size ≠ 0) (h1 : ¬ (1 < s.size ∧ (byteAt s 0).toNat = 48)) : Calls Try.prog 108 #[.string s] w fun e w' => ParsedP s e ∧ Below w.heap.size w w' := by
  have hn0 : Hid (numS s = upTo s.size fun i => digB (byteAt s i)) := by
    unfold Hid numS
    rw [decide_eq_true h0]
    by_cases h : 1 < s.size
    · rw [decide_eq_false (fun h' => h1 ⟨h, h'⟩)]; simp
    · rw [decide_eq_false h]; simp
  unfold StrR at hs
  have e0 : s.toList.isEmpty = false := by rw [isEmpty_size]; exact decide_eq_false h0
  have hlt : 0 < s.size := by omega
  have hmf : ∀ (fn : Go.Fn) (first cap : Array Value) (w : World), (Instr.makeFunc fn first cap).run Try.prog w = .ok (.func fn first cap) w := fun _ _ _ _ => rfl
  have hcv := fun w => Lib.run_convert_string_bytes (P := Try.prog) w 9 134 5 s Try.underlying9 Try.underlying134 Try.underlying5
  have hst := (PInv.start w).bytes 5 s
  have hcs : Hid (∀ i, i < s.size → (Lib.bytesWorld ((w.alloc (.cells #[.int .i64 0] 3)).alloc (.cells #[.bool false] 4)) 5 s).cell? ⟨w.heap.size + 2, i, none⟩ = some (.int .u8 (byteAt s i).toNat)) := fun i hi => by
    have := Lib.bytesWorld_cell ((w.alloc (.cells #[.int .i64 0] 3)).alloc (.cells #[.bool false] 4)) 5 s i hi
    rw [show ((w.alloc (.cells #[.int .i64 0] 3)).alloc (.cells #[.bool false] 4)).heap.size = w.heap.size + 2 by simp] at this
    exact this
  by_cases h : 1 < s.size
  · have d0 : decide (1 < s.size) = true := decide_eq_true h
    have d1 : decide (1 < (s.size : Int)) = true := decide_eq_true (by omega)
    have b1 : ((s[0].toNat : Int) == 48) = false := by
      have : ¬ ((byteAt s 0).toNat = 48) := fun h' => h1 ⟨h, h'⟩
      rw [byteAt_get s 0 hlt] at this
      simpa using by omega
    clear h h0 h1
    go_enter Try.func108, Try.ntmps108
    go_wp2
    clear hcv hmf d0 d1
    go_loopw [8, 25] (fun _ i wr => ∃ j : Nat, j ≤ s.size ∧ i = .int .i64 j ∧ Hid (∀ k, k < j → digB (byteAt s k) = true) ∧ Hid (∀ i, i < s.size → wr.cell? ⟨w.heap.size + 2, i, none⟩ = some (.int .u8 (byteAt s i).toNat)) ∧ Hid (PInv w wr)) (fun _ i _ => s.size - (intOf i).toNat)
    case atStart => exact ⟨0, Nat.zero_le _, rfl, fun k hk => absurd hk (Nat.not_lt_zero _), hcs, hst⟩
    case round =>
      obtain ⟨j, hj, rfl, hall, hcs, hI⟩ := hrel
      by_cases hlt : j < s.size
      · have i1 : decide ((j : Int) < (s.size : Int)) = true := decide_eq_true (by omega)
        have cj := hcs.out j hlt
        have hba := byte_and (byteAt s j)
        generalize hby : byteAt s j = c at *
        by_cases hdg : 48 ≤ (c.toNat : Int) ∧ (c.toNat : Int) ≤ 57
        · have g1 : decide ((c.toNat : Int) < 48) = false := decide_eq_false (by omega)
          have g2 : decide (57 < (c.toNat : Int)) = false := decide_eq_false (by omega)
          have hj1 : Hid (digB (byteAt s j) = true) := by unfold Hid digB; rw [hby]; exact decide_eq_true (by omega)
          clear hdg hby
          have hpt := Lib.hid (put_any w wr _ hba hI.out)
          clear hba
          go_wp2_with (go_at_call 117; (with_reducible refine hpt.out.mono ?_); rintro e w2 ⟨rfl, hI2, hkeep, hsz2⟩; have hI2' := Lib.hid hI2; have hkeep' := Lib.hid hkeep; clear hI2 hkeep)
          go_roundw
          case rel => exact ⟨j + 1, by omega, by go_num, fun k hk => by
            by_cases e : k = j
            · subst e; exact hj1.out
            · exact hall.out k (by omega), fun i hi => (hkeep'.out ⟨w.heap.size + 2, i, none⟩ (by simp) (by simp)).trans (hcs.out i hi), hI2'.out⟩
          case measure => simp [intOf]; omega
        · have hno := Lib.hid (hn0.out.trans (upTo_no (p := fun i => digB (byteAt s i)) hlt (by show digB (byteAt s j) = false; unfold digB; rw [hby]; exact decide_eq_false (by omega))))
          clear hby hba
          by_cases hlo : (c.toNat : Int) < 48
          · have g1 : decide ((c.toNat : Int) < 48) = true := decide_eq_true hlo
            clear hdg hlo
            go_wp2_with fail
            go_ret2
            exact ⟨⟨0, 20, rfl, hno.out.symm⟩, hI.out.choose_spec.choose_spec.2.2.2.2.2.2⟩
          · have g1 : decide ((c.toNat : Int) < 48) = false := decide_eq_false hlo
            have g2 : decide (57 < (c.toNat : Int)) = true := decide_eq_true (by omega)
            clear hdg hlo
            go_wp2_with fail
            go_ret2
            exact ⟨⟨0, 20, rfl, hno.out.symm⟩, hI.out.choose_spec.choose_spec.2.2.2.2.2.2⟩
      · have i1 : decide ((j : Int) < (s.size : Int)) = false := decide_eq_false (by omega)
        have hyes := Lib.hid (hn0.out.trans (upTo_yes (n := s.size) fun i hi => hall.out i (by omega)))
        obtain ⟨n, ov, _, c0, c1, _, _, _, hb⟩ := hI.out
        cases ov with
        | true =>
          go_wp2_with fail
          go_ret2
          exact ⟨⟨0, 10, rfl, hyes.out.symm⟩, hb⟩
        | false =>
          go_wp2_with fail
          go_ret2
          exact ⟨⟨n, 0, rfl, hyes.out.symm⟩, hb⟩
  · have d0 : decide (1 < s.size) = false := decide_eq_false h
    have d1 : decide (1 < (s.size : Int)) = false := decide_eq_false (by omega)
    clear h h0 h1
    go_enter Try.func108, Try.ntmps108
    go_wp2
    clear hcv hmf d0 d1
    go_loopw [8, 25] (fun _ i wr => ∃ j : Nat, j ≤ s.size ∧ i = .int .i64 j ∧ Hid (∀ k, k < j → digB (byteAt s k) = true) ∧ Hid (∀ i, i < s.size → wr.cell? ⟨w.heap.size + 2, i, none⟩ = some (.int .u8 (byteAt s i).toNat)) ∧ Hid (PInv w wr)) (fun _ i _ => s.size - (intOf i).toNat)
    case atStart => exact ⟨0, Nat.zero_le _, rfl, fun k hk => absurd hk (Nat.not_lt_zero _), hcs, hst⟩
    case round =>
      obtain ⟨j, hj, rfl, hall, hcs, hI⟩ := hrel
      by_cases hlt : j < s.size
      · have i1 : decide ((j : Int) < (s.size : Int)) = true := decide_eq_true (by omega)
        have cj := hcs.out j hlt
        have hba := byte_and (byteAt s j)
        generalize hby : byteAt s j = c at *
        by_cases hdg : 48 ≤ (c.toNat : Int) ∧ (c.toNat : Int) ≤ 57
        · have g1 : decide ((c.toNat : Int) < 48) = false := decide_eq_false (by omega)
          have g2 : decide (57 < (c.toNat : Int)) = false := decide_eq_false (by omega)
          have hj1 : Hid (digB (byteAt s j) = true) := by unfold Hid digB; rw [hby]; exact decide_eq_true (by omega)
          clear hdg hby
          have hpt := Lib.hid (put_any w wr _ hba hI.out)
          clear hba
          go_wp2_with (go_at_call 117; (with_reducible refine hpt.out.mono ?_); rintro e w2 ⟨rfl, hI2, hkeep, hsz2⟩; have hI2' := Lib.hid hI2; have hkeep' := Lib.hid hkeep; clear hI2 hkeep)
          go_roundw
          case rel => exact ⟨j + 1, by omega, by go_num, fun k hk => by
            by_cases e : k = j
            · subst e; exact hj1.out
            · exact hall.out k (by omega), fun i hi => (hkeep'.out ⟨w.heap.size + 2, i, none⟩ (by simp) (by simp)).trans (hcs.out i hi), hI2'.out⟩
          case measure => simp [intOf]; omega
        · have hno := Lib.hid (hn0.out.trans (upTo_no (p := fun i => digB (byteAt s i)) hlt (by show digB (byteAt s j) = false; unfold digB; rw [hby]; exact decide_eq_false (by omega))))
          clear hby hba
          by_cases hlo : (c.toNat : Int) < 48
          · have g1 : decide ((c.toNat : Int) < 48) = true := decide_eq_true hlo
            clear hdg hlo
            go_wp2_with fail
            go_ret2
            exact ⟨⟨0, 20, rfl, hno.out.symm⟩, hI.out.choose_spec.choose_spec.2.2.2.2.2.2⟩
          · have g1 : decide ((c.toNat : Int) < 48) = false := decide_eq_false hlo
            have g2 : decide (57 < (c.toNat : Int)) = true := decide_eq_true (by omega)
            clear hdg hlo
            go_wp2_with fail
            go_ret2
            exact ⟨⟨0, 20, rfl, hno.out.symm⟩, hI.out.choose_spec.choose_spec.2.2.2.2.2.2⟩
      · have i1 : decide ((j : Int) < (s.size : Int)) = false := decide_eq_false (by omega)
        have hyes := Lib.hid (hn0.out.trans (upTo_yes (n := s.size) fun i hi => hall.out i (by omega)))
        obtain ⟨n, ov, _, c0, c1, _, _, _, hb⟩ := hI.out
        cases ov with
        | true =>
          go_wp2_with fail
          go_ret2
          exact ⟨⟨0, 10, rfl, hyes.out.symm⟩, hb⟩
        | false =>
          go_wp2_with fail
          go_ret2
          exact ⟨⟨n, 0, rfl, hyes.out.symm⟩, hb⟩
end Go.Proofs.Ythkbekfdjfmmbaa
