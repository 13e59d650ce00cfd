/- lex.Sign, num.Parse, sexpr.symbol, numeral, keyword. -/
import Derived.Test.YtlhnffmbjejphaaGreatZSigMToSigA
import Derived.Test.YtlhnffmbjejphaaGreatZIntsToSame10
import Derived.BigQuiet
import Derived.Deep.QuietTactic
import Derived.Deep.RegionHeld3
import Derived.Lib.ConvBytes
namespace Go.Proofs.YtlhnffmbjejphaaGreat
open Go.RowKit
set_option maxRecDepth 100000

theorem sign_low : ∀ c : Fin 64, (bits BinOp.and IntKind.u64 (17582031444648132608 / 2 ^ c.val) 1 == 1) = signN c.val := by decide +kernel
theorem sign_high : ∀ c : Fin 64, (bits BinOp.and IntKind.u64 (5188146765496319999 / 2 ^ c.val) 1 == 1) = signN (c.val + 64) := by decide +kernel
theorem Sign_any (c : UInt8) (w : World) : Calls Tryz.prog 172 #[.int .u8 c.toNat] w fun e w' => e = .returned (.bool (signB c)) ∧ w = w' := by
  have hc : (c.toNat : Int) < 256 := by have := c.toNat_lt; omega
  by_cases h1 : c.toNat < 64
  · have hs := Lib.hid (sign_low ⟨c.toNat, h1⟩)
    have h1' : (c.toNat : Int) < 64 := by omega
    go_enter Tryz.func172, Tryz.ntmps172
    go_wp2
    go_ret
    exact ⟨ret_bool hs.out, rfl⟩
  · have h1' : ¬ (c.toNat : Int) < 64 := by omega
    by_cases h2 : c.toNat < 128
    · have hs := Lib.hid (sign_high ⟨c.toNat - 64, by omega⟩)
      have he : Hid (c.toNat - 64 + 64 = c.toNat) := by unfold Hid; omega
      have h2' : (c.toNat : Int) < 128 := by omega
      go_enter Tryz.func172, Tryz.ntmps172
      go_wp2
      go_ret
      exact ⟨ret_bool (hs.out.trans (by show signN (c.toNat - 64 + 64) = signN c.toNat; rw [he.out])), rfl⟩
    · have h2' : ¬ (c.toNat : Int) < 128 := by omega
      have hs := Lib.hid (sign_none (c := c.toNat) (by omega))
      go_enter Tryz.func172, Tryz.ntmps172
      go_wp2
      go_ret
      exact ⟨ret_bool hs.out.symm, rfl⟩
theorem kw1_any (c : UInt8) (w : World) : Calls Tryz.prog 171 #[.int .u8 c.toNat] w fun e w' => e = .returned (.bool (!signB c)) ∧ w = w' := by
  go_enter Tryz.func171, Tryz.ntmps171
  go_wp2_with (go_at_call 172; refine (Sign_any _ _).mono ?_; rintro e w' ⟨rfl, rfl⟩)
  go_ret
  exact ⟨rfl, rfl⟩

/-- The slice value v reads, in w, as the bytes of s. -/
def BytesAt (w : World) (v : Value) (s : ByteArray) : Prop := ∃ b c, v = .slice (some ⟨b, 0, none⟩) s.size c ∧ b < w.heap.size ∧ ∀ i, i < s.size → w.cell? ⟨b, i, none⟩ = some (.int .u8 (byteAt s i).toNat)
theorem BytesAt.below {w w' : World} {v : Value} {s : ByteArray} (h : BytesAt w v s) (hb : Below w.heap.size w w') : BytesAt w' v s := by
  obtain ⟨b, c, rfl, hlt, hc⟩ := h
  exact ⟨b, c, rfl, Nat.lt_of_lt_of_le hlt hb.size, fun i hi => (hb.cell (p := ⟨b, i, none⟩) hlt).trans (hc i hi)⟩
theorem bytesWorld_below (w : World) (e : TypeId) (s : ByteArray) : Below w.heap.size w (Lib.bytesWorld w e s) :=
  ⟨rfl, rfl, rfl, by rw [Lib.bytesWorld_size]; omega, fun b hb => Lib.bytesWorld_at_old w e s b hb⟩
theorem bytes_made (w : World) (s : ByteArray) (c : Nat) : BytesAt (Lib.bytesWorld w 5 s) (.slice (some ⟨w.heap.size, 0, none⟩) s.size c) s :=
  ⟨_, _, rfl, by rw [Lib.bytesWorld_size]; omega, fun i hi => Lib.bytesWorld_cell w _ s i hi⟩
set_option maxHeartbeats 1000000 in
theorem idx_kw (v : Value) (s : ByteArray) (w : World) (hv : BytesAt w v s) (hs : StrR s) :
    Calls Tryz.prog 178 #[v, .func (.func 171) #[] #[]] w fun e w' => e = .returned (.int .i64 (firstI s.size fun i => !signB (byteAt s i))) ∧ w = w' := by
  unfold StrR at hs
  obtain ⟨b, c, rfl, hlt, hcs⟩ := hv
  have hcs' := Lib.hid hcs
  clear hcs
  go_enter Tryz.func178, Tryz.ntmps178
  go_wp2_with fail
  go_loopw [5, 8] (fun _ i wr => ∃ j : Nat, j ≤ s.size ∧ i = .int .i64 j ∧ Hid (∀ k, k < j → (!signB (byteAt s k)) = false) ∧ w = wr) (fun _ i _ => s.size - (intOf i).toNat)
  case atStart => exact ⟨0, Nat.zero_le _, rfl, fun k hk => absurd hk (Nat.not_lt_zero _), rfl⟩
  case round =>
    obtain ⟨j, hj, rfl, hall, rfl⟩ := hrel
    by_cases hlt : j < s.size
    · have i1 : decide ((j : Int) < (s.size : Int)) = true := decide_eq_true (by omega)
      have cj := hcs'.out j hlt
      cases hq : (!signB (byteAt s j)) with
      | true =>
        have hF := Lib.hid (firstI_hit (p := fun i => !signB (byteAt s i)) hlt hall.out hq)
        have hcl := Lib.hid (kw1_any (byteAt s j) w)
        rw [hq] at hcl
        clear hq
        go_wp2_with (go_at_call 171; (with_reducible refine hcl.out.mono ?_); rintro e w2 ⟨rfl, rfl⟩)
        go_ret
        exact ⟨ret_int hF.out.symm, rfl⟩
      | false =>
        have hq' := Lib.hid hq
        have hcl := Lib.hid (kw1_any (byteAt s j) w)
        rw [hq] at hcl
        clear hq
        go_wp2_with (go_at_call 171; (with_reducible refine hcl.out.mono ?_); rintro e w2 ⟨rfl, rfl⟩)
        go_roundw
        case rel => exact ⟨j + 1, by omega, by go_num, fun k hk => by
          by_cases e : k = j
          · subst e; exact hq'.out
          · exact hall.out k (by omega), trivial⟩
        case measure => simp [intOf]; omega
    · have i1 : decide ((j : Int) < (s.size : Int)) = false := decide_eq_false (by omega)
      have hF := Lib.hid (firstI_none (n := s.size) (p := fun i => !signB (byteAt s i)) fun i hi => hall.out i (by omega))
      go_wp2_with fail
      go_ret
      exact ⟨ret_int hF.out.symm, rfl⟩
theorem has_kw (v : Value) (s : ByteArray) (w : World) (hv : BytesAt w v s) (hs : StrR s) :
    Calls Tryz.prog 170 #[v, .func (.func 171) #[] #[]] w fun e w' => e = .returned (.bool (!upTo s.size fun i => signB (byteAt s i))) ∧ w = w' := by
  have hI := Lib.hid (idx_kw v s w hv hs)
  have hF := Lib.hid ((upTo_first s.size fun i => !signB (byteAt s i)).trans (by rw [upTo_congr fun i _ => Bool.not_not _]))
  generalize (firstI s.size fun i => !signB (byteAt s i)) = r at *
  go_enter Tryz.func170, Tryz.ntmps170
  go_wp2_with (go_at_call 178; refine hI.out.mono ?_; rintro e w' ⟨rfl, rfl⟩)
  go_ret
  exact ⟨ret_bool hF.out, rfl⟩
end Go.Proofs.YtlhnffmbjejphaaGreat

namespace Go.Proofs.YtlhnffmbjejphaaGreat
open Go.RowKit
set_option maxRecDepth 100000

/-- The two boxes that the closure writes. -/
def PInv (w x : World) : Prop := ∃ n : Int, ∃ ov : Bool, (0 ≤ n ∧ n ≤ 4611686018427387904) ∧ x.cell? ⟨w.heap.size, 0, none⟩ = some (.int .i64 n) ∧ x.cell? ⟨w.heap.size + 1, 0, none⟩ = some (.bool ov) ∧
  x.frozen? ⟨w.heap.size, 0, none⟩ = false ∧ x.frozen? ⟨w.heap.size + 1, 0, none⟩ = false ∧ w.heap.size + 1 < x.heap.size ∧ Below w.heap.size w x
theorem PInv.num {w x : World} (h : PInv w x) {n : Int} (hn : 0 ≤ n ∧ n ≤ 4611686018427387904) : PInv w (x.setCell ⟨w.heap.size, 0, none⟩ (.int .i64 n)) := by
  obtain ⟨_, ov, _, c0, c1, f0, f1, hz, hb⟩ := h
  exact ⟨n, ov, hn, World.cell?_setCell_same' _ _ _ (by rw [c0]; rfl), (World.cell?_setCell_other _ _ _ _ (by intro h; injection h; omega)).trans c1, (World.frozen?_setCell _ _ _ _).trans f0, (World.frozen?_setCell _ _ _ _).trans f1, by simpa using hz, hb.setCell (Nat.le_refl _) _⟩
theorem PInv.over {w x : World} (h : PInv w x) (b : Bool) : PInv w (x.setCell ⟨w.heap.size + 1, 0, none⟩ (.bool b)) := by
  obtain ⟨n, _, hn, c0, c1, f0, f1, hz, hb⟩ := h
  exact ⟨n, b, hn, (World.cell?_setCell_other _ _ _ _ (by intro h; injection h; omega)).trans c0, World.cell?_setCell_same' _ _ _ (by rw [c1]; rfl), (World.frozen?_setCell _ _ _ _).trans f0, (World.frozen?_setCell _ _ _ _).trans f1, by simpa using hz, hb.setCell (by show w.heap.size ≤ w.heap.size + 1; omega) _⟩
def PutP (w x : World) (e : Ending) (w' : World) : Prop := e = .returned (.tuple #[]) ∧ PInv w w' ∧ (∀ p : Addr, p.block ≠ w.heap.size → p.block ≠ w.heap.size + 1 → w'.cell? p = x.cell? p) ∧ x.heap.size ≤ w'.heap.size
theorem put_any (w x : World) (d : Int) (hd : 0 ≤ d ∧ d ≤ 15) (h : PInv w x) :
    Calls Tryz.prog 177 #[.int .i64 d, .pointer (some ⟨w.heap.size, 0, none⟩), .pointer (some ⟨w.heap.size + 1, 0, none⟩)] x (PutP w x) := by
  have hI := Lib.hid h
  obtain ⟨n, ov, ⟨n0, n1⟩, c0, c1, f0, f1, hz, hb⟩ := h
  obtain ⟨d0, d1⟩ := hd
  have hb' := Lib.hid hb
  clear hb
  by_cases hn : n > (4611686018427387904 - d) / 10
  · have g0 : decide ((4611686018427387904 - d) / 10 < n) = true := decide_eq_true hn
    clear hn
    go_enter Tryz.func177, Tryz.ntmps177
    go_wp2
    go_end0
    exact ⟨rfl, hI.out.over true, fun p _ h2 => World.cell?_setCell_other _ _ _ _ (fun h => h2 (by rw [← h])), by simp⟩
  · have g0 : decide ((4611686018427387904 - d) / 10 < n) = false := decide_eq_false hn
    have hn' : n * 10 + d ≤ 4611686018427387904 := by omega
    clear hn
    go_enter Tryz.func177, Tryz.ntmps177
    go_wp2
    go_end0
    exact ⟨rfl, hI.out.num ⟨by omega, hn'⟩, fun p h1 _ => World.cell?_setCell_other _ _ _ _ (fun h => h1 (by rw [← h])), by simp⟩
theorem parse_no (s : ByteArray) (w : World) (hs : StrR s) (h : s.size = 0 ∨ 1 < s.size ∧ (byteAt s 0).toNat = 48) : Calls Tryz.prog 169 #[.string s] w fun e w' => ParsedP s e ∧ Below w.heap.size w w' := by
  have hno : Hid (numS s = false) := by
    unfold Hid numS
    rcases h with h | ⟨h1, h2⟩
    · rw [decide_eq_false (fun h' => h' h)]; rfl
    · rw [decide_eq_true h1, decide_eq_true h2]; simp
  unfold StrR at hs
  by_cases h0 : s.size = 0
  · have e0 : s.toList.isEmpty = true := by rw [isEmpty_size]; exact decide_eq_true h0
    clear h h0
    go_enter Tryz.func169, Tryz.ntmps169
    go_wp2
    go_ret2
    exact ⟨⟨0, 20, rfl, hno.out.symm⟩, Below.refl _ _⟩
  · have e0 : s.toList.isEmpty = false := by rw [isEmpty_size]; exact decide_eq_false h0
    obtain ⟨h1, h2⟩ : 1 < s.size ∧ (byteAt s 0).toNat = 48 := by
      rcases h with h | h
      · exact absurd h h0
      · exact h
    have d0 : decide (1 < s.size) = true := decide_eq_true h1
    have d1 : decide (1 < (s.size : Int)) = true := decide_eq_true (by omega)
    have hlt : 0 < s.size := by omega
    have b0 : (s[0].toNat : Int) = 48 := by rw [byteAt_get s 0 hlt] at h2; omega
    have b1 : ((s[0].toNat : Int) == 48) = true := by simpa using b0
    have hb0 := Lib.hid b0
    clear h h0 h1 h2 b0
    go_enter Tryz.func169, Tryz.ntmps169
    go_wp2
    go_ret2
    exact ⟨⟨0, 20, rfl, hno.out.symm⟩, Below.refl _ _⟩
theorem PInv.start (w : World) : PInv w ((w.alloc (.cells #[.int .i64 0] 3)).alloc (.cells #[.bool false] 4)) :=
  ⟨0, false, by omega, (World.cell?_alloc_lt _ _ _ (by simp)).trans (by simp), by simp, by simp, by simp, by simp, ((Below.refl _ _).alloc (Nat.le_refl _) _).alloc (by simp) _⟩
theorem PInv.bytes {w x : World} (h : PInv w x) (e : TypeId) (s : ByteArray) : PInv w (Lib.bytesWorld x e s) := by
  obtain ⟨n, ov, hn, c0, c1, f0, f1, hz, hb⟩ := h
  have hbw := bytesWorld_below x e s
  exact ⟨n, ov, hn, (hbw.cell (p := ⟨w.heap.size, 0, none⟩) (by show w.heap.size < _; omega)).trans c0, (hbw.cell (p := ⟨w.heap.size + 1, 0, none⟩) hz).trans c1, (hbw.frozen (p := ⟨w.heap.size, 0, none⟩) (by show w.heap.size < _; omega)).trans f0, (hbw.frozen (p := ⟨w.heap.size + 1, 0, none⟩) hz).trans f1,
    by have := hbw.size; omega, hb.trans (hbw.mono (by omega))⟩
theorem byte_and (c : UInt8) : 0 ≤ wrap64 (bits BinOp.and IntKind.u8 c.toNat 15) ∧ wrap64 (bits BinOp.and IntKind.u8 c.toNat 15) ≤ 15 := by
  have h : ∀ c : Fin 256, (0 ≤ wrap64 (bits BinOp.and IntKind.u8 (c.val : Int) 15) ∧ wrap64 (bits BinOp.and IntKind.u8 (c.val : Int) 15) ≤ 15) := by decide +kernel
  exact h ⟨c.toNat, c.toNat_lt⟩
set_option maxHeartbeats 2000000 in
theorem parse_go (s : ByteArray) (w : World) (hs : StrR s) (h0 : s.size ≠ 0) (h1 : ¬ (1 < s.size ∧ (byteAt s 0).toNat = 48)) : Calls Tryz.prog 169 #[.string s] w fun e w' => ParsedP s e ∧ Below w.heap.size w w' := by
  have hn0 : Hid (numS s = upTo s.size fun i => digB (byteAt s i)) := by
    unfold Hid numS
    rw [decide_eq_true h0]
    by_cases h : 1 < s.size
    · rw [decide_eq_false (fun h' => h1 ⟨h, h'⟩)]; simp
    · rw [decide_eq_false h]; simp
  unfold StrR at hs
  have e0 : s.toList.isEmpty = false := by rw [isEmpty_size]; exact decide_eq_false h0
  have hlt : 0 < s.size := by omega
  have hmf : ∀ (fn : Go.Fn) (first cap : Array Value) (w : World), (Instr.makeFunc fn first cap).run Tryz.prog w = .ok (.func fn first cap) w := fun _ _ _ _ => rfl
  have hcv := fun w => Lib.run_convert_string_bytes (P := Tryz.prog) w 9 191 5 s Tryz.underlying9 Tryz.underlying191 Tryz.underlying5
  have hst := (PInv.start w).bytes 5 s
  have hcs : Hid (∀ i, i < s.size → (Lib.bytesWorld ((w.alloc (.cells #[.int .i64 0] 3)).alloc (.cells #[.bool false] 4)) 5 s).cell? ⟨w.heap.size + 2, i, none⟩ = some (.int .u8 (byteAt s i).toNat)) := fun i hi => by
    have := Lib.bytesWorld_cell ((w.alloc (.cells #[.int .i64 0] 3)).alloc (.cells #[.bool false] 4)) 5 s i hi
    rw [show ((w.alloc (.cells #[.int .i64 0] 3)).alloc (.cells #[.bool false] 4)).heap.size = w.heap.size + 2 by simp] at this
    exact this
  by_cases h : 1 < s.size
  · have d0 : decide (1 < s.size) = true := decide_eq_true h
    have d1 : decide (1 < (s.size : Int)) = true := decide_eq_true (by omega)
    have b1 : ((s[0].toNat : Int) == 48) = false := by
      have : ¬ ((byteAt s 0).toNat = 48) := fun h' => h1 ⟨h, h'⟩
      rw [byteAt_get s 0 hlt] at this
      simpa using by omega
    clear h h0 h1
    go_enter Tryz.func169, Tryz.ntmps169
    go_wp2
    clear hcv hmf d0 d1
    go_loopw [8, 25] (fun _ i wr => ∃ j : Nat, j ≤ s.size ∧ i = .int .i64 j ∧ Hid (∀ k, k < j → digB (byteAt s k) = true) ∧ Hid (∀ i, i < s.size → wr.cell? ⟨w.heap.size + 2, i, none⟩ = some (.int .u8 (byteAt s i).toNat)) ∧ Hid (PInv w wr)) (fun _ i _ => s.size - (intOf i).toNat)
    case atStart => exact ⟨0, Nat.zero_le _, rfl, fun k hk => absurd hk (Nat.not_lt_zero _), hcs, hst⟩
    case round =>
      obtain ⟨j, hj, rfl, hall, hcs, hI⟩ := hrel
      by_cases hlt : j < s.size
      · have i1 : decide ((j : Int) < (s.size : Int)) = true := decide_eq_true (by omega)
        have cj := hcs.out j hlt
        have hba := byte_and (byteAt s j)
        generalize hby : byteAt s j = c at *
        by_cases hdg : 48 ≤ (c.toNat : Int) ∧ (c.toNat : Int) ≤ 57
        · have g1 : decide ((c.toNat : Int) < 48) = false := decide_eq_false (by omega)
          have g2 : decide (57 < (c.toNat : Int)) = false := decide_eq_false (by omega)
          have hj1 : Hid (digB (byteAt s j) = true) := by unfold Hid digB; rw [hby]; exact decide_eq_true (by omega)
          clear hdg hby
          have hpt := Lib.hid (put_any w wr _ hba hI.out)
          clear hba
          go_wp2_with (go_at_call 177; (with_reducible refine hpt.out.mono ?_); rintro e w2 ⟨rfl, hI2, hkeep, hsz2⟩; have hI2' := Lib.hid hI2; have hkeep' := Lib.hid hkeep; clear hI2 hkeep)
          go_roundw
          case rel => exact ⟨j + 1, by omega, by go_num, fun k hk => by
            by_cases e : k = j
            · subst e; exact hj1.out
            · exact hall.out k (by omega), fun i hi => (hkeep'.out ⟨w.heap.size + 2, i, none⟩ (by simp) (by simp)).trans (hcs.out i hi), hI2'.out⟩
          case measure => simp [intOf]; omega
        · have hno := Lib.hid (hn0.out.trans (upTo_no (p := fun i => digB (byteAt s i)) hlt (by show digB (byteAt s j) = false; unfold digB; rw [hby]; exact decide_eq_false (by omega))))
          clear hby hba
          by_cases hlo : (c.toNat : Int) < 48
          · have g1 : decide ((c.toNat : Int) < 48) = true := decide_eq_true hlo
            clear hdg hlo
            go_wp2_with fail
            go_ret2
            exact ⟨⟨0, 20, rfl, hno.out.symm⟩, hI.out.choose_spec.choose_spec.2.2.2.2.2.2⟩
          · have g1 : decide ((c.toNat : Int) < 48) = false := decide_eq_false hlo
            have g2 : decide (57 < (c.toNat : Int)) = true := decide_eq_true (by omega)
            clear hdg hlo
            go_wp2_with fail
            go_ret2
            exact ⟨⟨0, 20, rfl, hno.out.symm⟩, hI.out.choose_spec.choose_spec.2.2.2.2.2.2⟩
      · have i1 : decide ((j : Int) < (s.size : Int)) = false := decide_eq_false (by omega)
        have hyes := Lib.hid (hn0.out.trans (upTo_yes (n := s.size) fun i hi => hall.out i (by omega)))
        obtain ⟨n, ov, _, c0, c1, _, _, _, hb⟩ := hI.out
        cases ov with
        | true =>
          go_wp2_with fail
          go_ret2
          exact ⟨⟨0, 10, rfl, hyes.out.symm⟩, hb⟩
        | false =>
          go_wp2_with fail
          go_ret2
          exact ⟨⟨n, 0, rfl, hyes.out.symm⟩, hb⟩
  · have d0 : decide (1 < s.size) = false := decide_eq_false h
    have d1 : decide (1 < (s.size : Int)) = false := decide_eq_false (by omega)
    clear h h0 h1
    go_enter Tryz.func169, Tryz.ntmps169
    go_wp2
    clear hcv hmf d0 d1
    go_loopw [8, 25] (fun _ i wr => ∃ j : Nat, j ≤ s.size ∧ i = .int .i64 j ∧ Hid (∀ k, k < j → digB (byteAt s k) = true) ∧ Hid (∀ i, i < s.size → wr.cell? ⟨w.heap.size + 2, i, none⟩ = some (.int .u8 (byteAt s i).toNat)) ∧ Hid (PInv w wr)) (fun _ i _ => s.size - (intOf i).toNat)
    case atStart => exact ⟨0, Nat.zero_le _, rfl, fun k hk => absurd hk (Nat.not_lt_zero _), hcs, hst⟩
    case round =>
      obtain ⟨j, hj, rfl, hall, hcs, hI⟩ := hrel
      by_cases hlt : j < s.size
      · have i1 : decide ((j : Int) < (s.size : Int)) = true := decide_eq_true (by omega)
        have cj := hcs.out j hlt
        have hba := byte_and (byteAt s j)
        generalize hby : byteAt s j = c at *
        by_cases hdg : 48 ≤ (c.toNat : Int) ∧ (c.toNat : Int) ≤ 57
        · have g1 : decide ((c.toNat : Int) < 48) = false := decide_eq_false (by omega)
          have g2 : decide (57 < (c.toNat : Int)) = false := decide_eq_false (by omega)
          have hj1 : Hid (digB (byteAt s j) = true) := by unfold Hid digB; rw [hby]; exact decide_eq_true (by omega)
          clear hdg hby
          have hpt := Lib.hid (put_any w wr _ hba hI.out)
          clear hba
          go_wp2_with (go_at_call 177; (with_reducible refine hpt.out.mono ?_); rintro e w2 ⟨rfl, hI2, hkeep, hsz2⟩; have hI2' := Lib.hid hI2; have hkeep' := Lib.hid hkeep; clear hI2 hkeep)
          go_roundw
          case rel => exact ⟨j + 1, by omega, by go_num, fun k hk => by
            by_cases e : k = j
            · subst e; exact hj1.out
            · exact hall.out k (by omega), fun i hi => (hkeep'.out ⟨w.heap.size + 2, i, none⟩ (by simp) (by simp)).trans (hcs.out i hi), hI2'.out⟩
          case measure => simp [intOf]; omega
        · have hno := Lib.hid (hn0.out.trans (upTo_no (p := fun i => digB (byteAt s i)) hlt (by show digB (byteAt s j) = false; unfold digB; rw [hby]; exact decide_eq_false (by omega))))
          clear hby hba
          by_cases hlo : (c.toNat : Int) < 48
          · have g1 : decide ((c.toNat : Int) < 48) = true := decide_eq_true hlo
            clear hdg hlo
            go_wp2_with fail
            go_ret2
            exact ⟨⟨0, 20, rfl, hno.out.symm⟩, hI.out.choose_spec.choose_spec.2.2.2.2.2.2⟩
          · have g1 : decide ((c.toNat : Int) < 48) = false := decide_eq_false hlo
            have g2 : decide (57 < (c.toNat : Int)) = true := decide_eq_true (by omega)
            clear hdg hlo
            go_wp2_with fail
            go_ret2
            exact ⟨⟨0, 20, rfl, hno.out.symm⟩, hI.out.choose_spec.choose_spec.2.2.2.2.2.2⟩
      · have i1 : decide ((j : Int) < (s.size : Int)) = false := decide_eq_false (by omega)
        have hyes := Lib.hid (hn0.out.trans (upTo_yes (n := s.size) fun i hi => hall.out i (by omega)))
        obtain ⟨n, ov, _, c0, c1, _, _, _, hb⟩ := hI.out
        cases ov with
        | true =>
          go_wp2_with fail
          go_ret2
          exact ⟨⟨0, 10, rfl, hyes.out.symm⟩, hb⟩
        | false =>
          go_wp2_with fail
          go_ret2
          exact ⟨⟨n, 0, rfl, hyes.out.symm⟩, hb⟩
end Go.Proofs.YtlhnffmbjejphaaGreat

namespace Go.Proofs.YtlhnffmbjejphaaGreat
open Go.RowKit
set_option maxRecDepth 100000

theorem parse_any (s : ByteArray) (w : World) (hs : StrR s) : Calls Tryz.prog 169 #[.string s] w fun e w' => ParsedP s e ∧ Below w.heap.size w w' := by
  by_cases h : s.size = 0 ∨ 1 < s.size ∧ (byteAt s 0).toNat = 48
  · exact parse_no s w hs h
  · exact parse_go s w hs (fun h' => h (.inl h')) (fun h' => h (.inr h'))
theorem symbol_any (b o : Nat) (t : ByteArray) (A : Option Addr) (n c : Nat) (w : World) (c1 : w.cell? ⟨b, o + 1, none⟩ = some (.string t)) (c2 : w.cell? ⟨b, o + 2, none⟩ = some (.slice A n c)) (ht : StrR t) :
    Calls Tryz.prog 161 #[.pointer (some ⟨b, o, none⟩)] w fun e w' => e = .returned (.bool (symB n t)) ∧ w = w' := by
  by_cases h0 : n = 0
  · have hR : Hid (symB n t = mayS t) := by unfold Hid symB; rw [decide_eq_true h0]; rfl
    have d0 : ((n : Int) == 0) = true := by simp [h0]
    have d1 : (n == 0) = true := by simp [h0]
    clear h0
    go_enter Tryz.func161, Tryz.ntmps161
    go_wp2_with (go_at_call 131; refine (LMay_any _ _ ht).mono ?_; rintro e w' ⟨rfl, rfl⟩)
    go_ret
    exact ⟨ret_bool hR.out.symm, rfl⟩
  · have hR : Hid (symB n t = false) := by unfold Hid symB; rw [decide_eq_false h0]; rfl
    have d0 : ((n : Int) == 0) = false := by simpa using h0
    have d1 : (n == 0) = false := by simpa using h0
    clear h0
    go_enter Tryz.func161, Tryz.ntmps161
    go_wp2_with fail
    go_ret
    exact ⟨ret_bool hR.out.symm, rfl⟩
set_option maxHeartbeats 1000000 in
theorem numeral_any (b o : Nat) (t : ByteArray) (A : Option Addr) (n c : Nat) (w : World) (hb : b < w.heap.size) (c1 : w.cell? ⟨b, o + 1, none⟩ = some (.string t)) (c2 : w.cell? ⟨b, o + 2, none⟩ = some (.slice A n c)) (ht : StrR t) :
    Calls Tryz.prog 162 #[.pointer (some ⟨b, o, none⟩)] w fun e w' => e = .returned (.bool (nmB n t)) ∧ Below w.heap.size w w' := by
  have hp := Lib.hid (parse_any t w ht)
  have hcc : ∀ w', Below w.heap.size w w' → w'.cell? ⟨b, o + 1, none⟩ = some (.string t) ∧ w'.cell? ⟨b, o + 2, none⟩ = some (.slice A n c) := fun w' h => ⟨(h.cell (p := ⟨b, o + 1, none⟩) hb).trans c1, (h.cell (p := ⟨b, o + 2, none⟩) hb).trans c2⟩
  have hcc' := Lib.hid hcc
  clear hcc
  have hs := ht
  unfold StrR at hs
  go_enter Tryz.func162, Tryz.ntmps162
  go_wp2_with fail
  refine hp.out.mono ?_
  rintro e w1 ⟨⟨v, er, rfl, her⟩, hb1⟩
  obtain ⟨k1, k2⟩ := hcc'.out _ hb1
  have hbw := Lib.hid hb1
  clear hb1 c1 c2 hp hcc'
  by_cases h0 : n = 0
  · have d0 : ((n : Int) == 0) = true := by simp [h0]
    have d1 : (n == 0) = true := by simp [h0]
    cases hn : numS t with
    | false =>
      have hR : Hid (nmB n t = false) := by unfold Hid nmB; rw [hn]; simp
      rw [hn] at her
      clear h0 hn
      go_wp2_with fail
      go_ret
      exact ⟨ret_bool hR.out.symm, hbw.out⟩
    | true =>
      by_cases hl : t.size ≤ 100
      · have hR : Hid (nmB n t = true) := by unfold Hid nmB; rw [hn, decide_eq_true h0, decide_eq_true hl]; rfl
        have d2 : decide ((t.size : Int) ≤ 100) = true := decide_eq_true (by omega)
        rw [hn] at her
        clear h0 hn hl
        go_wp2_with fail
        go_ret
        exact ⟨ret_bool hR.out.symm, hbw.out⟩
      · have hR : Hid (nmB n t = false) := by unfold Hid nmB; rw [decide_eq_false hl]; simp
        have d2 : decide ((t.size : Int) ≤ 100) = false := decide_eq_false (by omega)
        rw [hn] at her
        clear h0 hn hl
        go_wp2_with fail
        go_ret
        exact ⟨ret_bool hR.out.symm, hbw.out⟩
  · have hR : Hid (nmB n t = false) := by unfold Hid nmB; rw [decide_eq_false h0]; rfl
    have d0 : ((n : Int) == 0) = false := by simpa using h0
    have d1 : (n == 0) = false := by simpa using h0
    clear h0 her
    go_wp2_with fail
    go_ret
    exact ⟨ret_bool hR.out.symm, hbw.out⟩
set_option maxHeartbeats 2000000 in
theorem keyword_any (b o : Nat) (t : ByteArray) (A : Option Addr) (n c : Nat) (w : World) (hb : b < w.heap.size) (c1 : w.cell? ⟨b, o + 1, none⟩ = some (.string t)) (c2 : w.cell? ⟨b, o + 2, none⟩ = some (.slice A n c)) (ht : StrR t) :
    Calls Tryz.prog 163 #[.pointer (some ⟨b, o, none⟩)] w fun e w' => e = .returned (.bool (kwB n t)) ∧ Below w.heap.size w w' := by
  have hb1 := bytesWorld_below w 5 t
  have k1 := (hb1.cell (p := ⟨b, o + 1, none⟩) hb).trans c1
  have k2 := (hb1.cell (p := ⟨b, o + 2, none⟩) hb).trans c2
  have hbw := Lib.hid hb1
  clear hb1
  have hcv := fun w => Lib.run_convert_string_bytes (P := Tryz.prog) w 9 191 5 t Tryz.underlying9 Tryz.underlying191 Tryz.underlying5
  have hk := Lib.hid fun c => has_kw _ t _ (bytes_made w t c) ht
  have hs := ht
  unfold StrR at hs
  have hR : Hid (kwB n t = (decide (n = 0) && (upTo t.size fun i => signB (byteAt t i)) && decide (t.size ≠ 0) && decide (t.size ≤ 100))) := rfl
  generalize (upTo t.size fun i => signB (byteAt t i)) = u at *
  have hsz := isEmpty_size t
  by_cases h0 : n = 0
  · have d0 : ((n : Int) == 0) = true := by simp [h0]
    have d1 : (n == 0) = true := by simp [h0]
    cases u with
    | false =>
      have hF : Hid (kwB n t = false) := by unfold Hid; rw [hR.out]; simp
      clear h0 hsz
      go_enter Tryz.func163, Tryz.ntmps163
      go_wp2_with (go_at_call 170; (with_reducible refine (hk.out _).mono ?_); rintro e w' ⟨rfl, rfl⟩)
      go_ret
      exact ⟨ret_bool hF.out.symm, hbw.out⟩
    | true =>
      by_cases he : t.size = 0
      · have hF : Hid (kwB n t = false) := by unfold Hid; rw [hR.out, show decide (t.size ≠ 0) = false from decide_eq_false (fun h => h he)]; simp
        have e0 : t.toList.isEmpty = true := by rw [hsz]; exact decide_eq_true he
        clear h0 hsz he
        go_enter Tryz.func163, Tryz.ntmps163
        go_wp2_with (go_at_call 170; (with_reducible refine (hk.out _).mono ?_); rintro e w' ⟨rfl, rfl⟩)
        go_ret
        exact ⟨ret_bool hF.out.symm, hbw.out⟩
      · have e0 : t.toList.isEmpty = false := by rw [hsz]; exact decide_eq_false he
        by_cases hl : t.size ≤ 100
        · have hF : Hid (kwB n t = true) := by unfold Hid; rw [hR.out, show decide (t.size ≠ 0) = true from decide_eq_true he, decide_eq_true h0, decide_eq_true hl]; rfl
          have d2 : decide ((t.size : Int) ≤ 100) = true := decide_eq_true (by omega)
          clear h0 hsz he hl
          go_enter Tryz.func163, Tryz.ntmps163
          go_wp2_with (go_at_call 170; (with_reducible refine (hk.out _).mono ?_); rintro e w' ⟨rfl, rfl⟩)
          go_ret
          exact ⟨ret_bool hF.out.symm, hbw.out⟩
        · have hF : Hid (kwB n t = false) := by unfold Hid; rw [hR.out, decide_eq_false hl]; simp
          have d2 : decide ((t.size : Int) ≤ 100) = false := decide_eq_false (by omega)
          clear h0 hsz he hl
          go_enter Tryz.func163, Tryz.ntmps163
          go_wp2_with (go_at_call 170; (with_reducible refine (hk.out _).mono ?_); rintro e w' ⟨rfl, rfl⟩)
          go_ret
          exact ⟨ret_bool hF.out.symm, hbw.out⟩
  · have hF : Hid (kwB n t = false) := by unfold Hid; rw [hR.out, decide_eq_false h0]; rfl
    have d0 : ((n : Int) == 0) = false := by simpa using h0
    have d1 : (n == 0) = false := by simpa using h0
    clear h0 hsz
    cases u with
    | false =>
      go_enter Tryz.func163, Tryz.ntmps163
      go_wp2_with (go_at_call 170; (with_reducible refine (hk.out _).mono ?_); rintro e w' ⟨rfl, rfl⟩)
      go_ret
      exact ⟨ret_bool hF.out.symm, hbw.out⟩
    | true =>
      go_enter Tryz.func163, Tryz.ntmps163
      go_wp2_with (go_at_call 170; (with_reducible refine (hk.out _).mono ?_); rintro e w' ⟨rfl, rfl⟩)
      go_ret
      exact ⟨ret_bool hF.out.symm, hbw.out⟩
end Go.Proofs.YtlhnffmbjejphaaGreat

namespace Go.Proofs.YtlhnffmbjejphaaGreat
open Go.RowKit
set_option maxRecDepth 100000

set_option maxHeartbeats 1000000 in
theorem Depth_any : ∀ (x : Sx) (kv tv lv : Value) (w : World), SxIs w x kv tv lv →
    Calls Tryz.prog 153 #[.agg #[kv, tv, lv]] w fun e w' => e = .returned (.int .i64 (depX x)) ∧ Below w.heap.size w w'
  | .nil, _, _, _, _, h => h.elim
  | .mk k t n l, kv, tv, lv, w, h => by
    have ih := fun i => Depth_any (l i)
    obtain ⟨rfl, hk, rfl, ht, hl⟩ := h.row
    have hl' := Lib.hid hl
    obtain ⟨A, c, rfl, ⟨hn, hc⟩, _⟩ := hl
    by_cases h3 : k = 3
    · subst h3
      have hR : Hid (depX (.mk 3 t n l) = wrap64 (maxUp n (fun i => depX (l i)) + 1)) := by unfold Hid; rw [depX, if_pos rfl]
      have ih' := Lib.hid ih
      clear ih h
      have hx0 := Lib.hid ((Bx.nil w).row #[.int .i8 3, .string t, .slice A n c] 59)
      go_enter Tryz.func153, Tryz.ntmps153
      go_wp2_with fail
      go_loopw [3, 5, 12] (fun d _ i wr => ∃ j : Nat, j ≤ n ∧ i = .int .i64 j ∧ d = .int .i64 (maxUp j fun i => depX (l i)) ∧ Hid (Below w.heap.size w wr)) (fun _ _ i _ => n - (intOf i).toNat)
      case atStart => exact ⟨0, Nat.zero_le _, rfl, rfl, (Below.refl _ _).alloc (Nat.le_refl _) _⟩
      case round =>
        obtain ⟨j, hj, rfl, rfl, hbr⟩ := hrel
        by_cases hlt : j < n
        · have i1 : decide ((j : Int) < (n : Int)) = true := decide_eq_true (by omega)
          obtain ⟨_, _, e, _, hcs⟩ := hl'.out.below hbr.out
          injection e with e1 _ e3
          subst e1; subst e3
          obtain ⟨b, o, rfl, hbl, hcs⟩ := hcs (by omega)
          obtain ⟨k', t', l', c0, c1, c2, hx⟩ := hcs j hlt
          obtain ⟨kk, tt, AA, nn, cc, rfl, rfl, rfl⟩ := hx.forms
          clear hcs
          have hsz := hbr.out.size
          have hcall := Lib.hid (ih'.out j _ _ _ _ (SxIs.below ((Below.refl wr.heap.size wr).alloc (Nat.le_refl _) (.cells #[.int .i8 kk, .string tt, .slice AA nn cc] 59)) _ _ _ _ hx))
          have hmx := maxUp_nonneg j fun i => depX (l i)
          generalize hm : (maxUp j fun i => depX (l i)) = m at *
          generalize hd : depX (l j) = dd at *
          have hmax : Hid ((maxUp (j + 1) fun i => depX (l i)) = max m dd) := by unfold Hid; rw [maxUp, hm, hd]
          clear hm hd hx
          go_wp2_with (go_at_call 153; (with_reducible refine hcall.out.mono ?_); rintro e w2 ⟨rfl, hb2⟩)
          go_roundw
          case rel => exact ⟨j + 1, by omega, by go_num, by rw [hmax.out, max_if], hbr.out.trans ((((Below.refl _ _).alloc (Nat.le_refl _) _).trans (hb2.mono (by simp))).mono hsz)⟩
          case measure => simp [intOf]; omega
        · have i1 : decide ((j : Int) < (n : Int)) = false := decide_eq_false (by omega)
          have hjn : Hid (j = n) := by unfold Hid; omega
          generalize hm : (maxUp j fun i => depX (l i)) = m at *
          have hF : Hid (depX (.mk 3 t n l) = wrap64 (m + 1)) := by unfold Hid; rw [hR.out, ← hm, hjn.out]
          clear hm
          go_wp2_with fail
          go_ret
          exact ⟨ret_int hF.out.symm, hbr.out⟩
    · have hR : Hid (depX (.mk k t n l) = 0) := by unfold Hid; rw [depX, if_neg h3]
      have d0 : (k != 3) = true := by simpa using h3
      clear h3 ih h
      go_enter Tryz.func153, Tryz.ntmps153
      go_wp2_with fail
      go_ret
      exact ⟨ret_int hR.out.symm, (Below.refl _ _).alloc (Nat.le_refl _) _⟩

def StP (x : Sx) : Prop := ∀ (w : World) (b o : Nat) (kv tv lv : Value), b < w.heap.size → w.cell? ⟨b, o, none⟩ = some kv → w.cell? ⟨b, o + 1, none⟩ = some tv → w.cell? ⟨b, o + 2, none⟩ = some lv → SxIs w x kv tv lv →
  Calls Tryz.prog 154 #[.pointer (some ⟨b, o, none⟩)] w fun e w' => e = .returned (.bool (stX x)) ∧ Below w.heap.size w w'
theorem list1_of (x : Sx) (ih : StP x) (kv tv lv : Value) (w : World) (h : SxIs w x kv tv lv) :
    Calls Tryz.prog 174 #[.agg #[kv, tv, lv]] w fun e w' => e = .returned (.bool (!stX x)) ∧ Below w.heap.size w w' := by
  have hx := ((Bx.nil w).row #[kv, tv, lv] 59)
  obtain ⟨⟨k0, kz⟩, ⟨k1, _⟩, ⟨k2, _⟩, _⟩ := hx.cells
  have hc := Lib.hid (ih _ w.heap.size 0 kv tv lv kz k0 k1 k2 (SxIs.below hx.bel _ _ _ _ h))
  clear k0 k1 k2 hx ih
  go_enter Tryz.func174, Tryz.ntmps174
  go_wp2_with (go_at_call 154; (with_reducible refine hc.out.mono ?_); rintro e w2 ⟨rfl, hb2⟩)
  go_ret
  exact ⟨rfl, ((Below.refl _ _).alloc (Nat.le_refl _) _).trans (hb2.mono (by simp))⟩
set_option maxHeartbeats 1000000 in
theorem idx_sx (v : Value) (n : Nat) (l : Nat → Sx) (ih : ∀ i, StP (l i)) (w : World) (hv : SxsAt w v n l) :
    Calls Tryz.prog 179 #[v, .func (.func 174) #[] #[]] w fun e w' => e = .returned (.int .i64 (firstI n fun i => !stX (l i))) ∧ Below w.heap.size w w' := by
  have hv' := Lib.hid hv
  have ih' := Lib.hid ih
  clear ih
  obtain ⟨A, c, rfl, ⟨hn, hc⟩, _⟩ := hv
  go_enter Tryz.func179, Tryz.ntmps179
  go_wp2_with fail
  go_loopw [5, 8] (fun _ i wr => ∃ j : Nat, j ≤ n ∧ i = .int .i64 j ∧ Hid (∀ k, k < j → (!stX (l k)) = false) ∧ Hid (Below w.heap.size w wr)) (fun _ i _ => n - (intOf i).toNat)
  case atStart => exact ⟨0, Nat.zero_le _, rfl, fun k hk => absurd hk (Nat.not_lt_zero _), Below.refl _ _⟩
  case round =>
    obtain ⟨j, hj, rfl, hall, hbr⟩ := hrel
    by_cases hlt : j < n
    · have i1 : decide ((j : Int) < (n : Int)) = true := decide_eq_true (by omega)
      obtain ⟨_, _, e, _, hcs⟩ := hv'.out.below hbr.out
      injection e with e1 _ e3
      subst e1; subst e3
      obtain ⟨b, o, rfl, hbl, hcs⟩ := hcs (by omega)
      obtain ⟨k', t', l', c0, c1, c2, hx⟩ := hcs j hlt
      clear hcs
      have hsz := hbr.out.size
      have hcl := Lib.hid (list1_of (l j) (ih'.out j) k' t' l' wr hx)
      clear hx
      cases hq : (!stX (l j)) with
      | true =>
        have hF := Lib.hid (firstI_hit (p := fun i => !stX (l i)) hlt hall.out hq)
        rw [hq] at hcl
        clear hq
        go_wp2_with (go_at_call 174; (with_reducible refine hcl.out.mono ?_); rintro e w2 ⟨rfl, hb2'⟩)
        go_ret
        exact ⟨ret_int hF.out.symm, hbr.out.trans (hb2'.mono hsz)⟩
      | false =>
        have hq' := Lib.hid hq
        rw [hq] at hcl
        clear hq
        go_wp2_with (go_at_call 174; (with_reducible refine hcl.out.mono ?_); rintro e w2 ⟨rfl, hb2'⟩)
        go_roundw
        case rel => exact ⟨j + 1, by omega, by go_num, fun k hk => by
          by_cases e : k = j
          · subst e; exact hq'.out
          · exact hall.out k (by omega), hbr.out.trans (hb2'.mono hsz)⟩
        case measure => simp [intOf]; omega
    · have i1 : decide ((j : Int) < (n : Int)) = false := decide_eq_false (by omega)
      have hF := Lib.hid (firstI_none (n := n) (p := fun i => !stX (l i)) fun i hi => hall.out i (by omega))
      go_wp2_with fail
      go_ret
      exact ⟨ret_int hF.out.symm, hbr.out⟩
theorem has_sx (v : Value) (n : Nat) (l : Nat → Sx) (ih : ∀ i, StP (l i)) (w : World) (hv : SxsAt w v n l) :
    Calls Tryz.prog 173 #[v, .func (.func 174) #[] #[]] w fun e w' => e = .returned (.bool (!upTo n fun i => stX (l i))) ∧ Below w.heap.size w w' := by
  have hI := Lib.hid (idx_sx v n l ih w hv)
  have hF := Lib.hid ((upTo_first n fun i => !stX (l i)).trans (by rw [upTo_congr fun i _ => Bool.not_not _]))
  generalize (firstI n fun i => !stX (l i)) = r at *
  go_enter Tryz.func173, Tryz.ntmps173
  go_wp2_with (go_at_call 179; refine hI.out.mono ?_; rintro e w' ⟨rfl, hb⟩)
  go_ret
  exact ⟨ret_bool hF.out, hb⟩
theorem list_of (n : Nat) (l : Nat → Sx) (ih : ∀ i, StP (l i)) (t : ByteArray) (b o : Nat) (lv : Value) (w : World) (hv : SxsAt w lv n l) (c1 : w.cell? ⟨b, o + 1, none⟩ = some (.string t)) (c2 : w.cell? ⟨b, o + 2, none⟩ = some lv) :
    Calls Tryz.prog 164 #[.pointer (some ⟨b, o, none⟩)] w fun e w' => e = .returned (.bool (t.toList.isEmpty && upTo n fun i => stX (l i))) ∧ Below w.heap.size w w' := by
  have hh := Lib.hid (has_sx lv n l ih w hv)
  clear ih hv
  generalize (upTo n fun i => stX (l i)) = u at *
  cases he : t.toList.isEmpty with
  | true =>
    go_enter Tryz.func164, Tryz.ntmps164
    go_wp2_with (go_at_call 173; (with_reducible refine hh.out.mono ?_); rintro e w2 ⟨rfl, hb2⟩)
    go_ret
    exact ⟨by simp, hb2⟩
  | false =>
    go_enter Tryz.func164, Tryz.ntmps164
    go_wp2_with fail
    go_ret
    exact ⟨rfl, Below.refl _ _⟩
set_option maxHeartbeats 1000000 in
theorem stands_of : ∀ x, StP x
  | .nil => fun _ _ _ _ _ _ _ _ _ _ h => h.elim
  | .mk k t n l => by
    have ih := fun i => stands_of (l i)
    intro w b o kv tv lv hb c0 c1 c2 h
    obtain ⟨rfl, hk, rfl, ht, hl⟩ := h.row
    have hL := Lib.hid (list_of n l ih t b o lv w hl c1 c2)
    obtain ⟨A, c, rfl, _, _⟩ := hl
    have hS := Lib.hid (symbol_any b o t A n c w c1 c2 ht)
    have hN := Lib.hid (numeral_any b o t A n c w hb c1 c2 ht)
    have hW := Lib.hid (keyword_any b o t A n c w hb c1 c2 ht)
    have hE : Hid (stX (.mk k t n l) = if k = 0 then symB n t else if k = 1 then nmB n t else if k = 2 then kwB n t else if k = 3 then t.toList.isEmpty && upTo n (fun i => stX (l i)) else false) := by unfold Hid; rw [stX]
    clear ih h c1 c2
    by_cases h0 : k = 0
    · subst h0
      go_enter Tryz.func154, Tryz.ntmps154
      go_wp2_with (go_at_call 161; (with_reducible refine hS.out.mono ?_); rintro e w2 ⟨rfl, rfl⟩)
      go_ret
      exact ⟨by rw [hE.out]; rfl, Below.refl _ _⟩
    · by_cases h1 : k = 1
      · subst h1
        go_enter Tryz.func154, Tryz.ntmps154
        go_wp2_with (go_at_call 162; (with_reducible refine hN.out.mono ?_); rintro e w2 ⟨rfl, hb2⟩)
        go_ret
        exact ⟨by rw [hE.out]; rfl, hb2⟩
      · by_cases h2 : k = 2
        · subst h2
          go_enter Tryz.func154, Tryz.ntmps154
          go_wp2_with (go_at_call 163; (with_reducible refine hW.out.mono ?_); rintro e w2 ⟨rfl, hb2⟩)
          go_ret
          exact ⟨by rw [hE.out]; rfl, hb2⟩
        · by_cases h3 : k = 3
          · subst h3
            go_enter Tryz.func154, Tryz.ntmps154
            go_wp2_with (go_at_call 164; (with_reducible refine hL.out.mono ?_); rintro e w2 ⟨rfl, hb2⟩)
            go_ret
            exact ⟨by rw [hE.out]; rfl, hb2⟩
          · have hF : Hid (stX (.mk k t n l) = false) := by unfold Hid; rw [hE.out, if_neg h0, if_neg h1, if_neg h2, if_neg h3]
            have e0 : (k == 0) = false := by simpa using h0
            have e1 : (k == 1) = false := by simpa using h1
            have e2 : (k == 2) = false := by simpa using h2
            have e3 : (k == 3) = false := by simpa using h3
            clear h0 h1 h2 h3
            go_enter Tryz.func154, Tryz.ntmps154
            go_wp2_with fail
            go_ret
            exact ⟨ret_bool hF.out.symm, Below.refl _ _⟩
theorem XMay_any (x : Sx) (kv tv lv : Value) (w : World) (h : SxIs w x kv tv lv) :
    Calls Tryz.prog 134 #[.agg #[kv, tv, lv]] w fun e w' => e = .returned (.bool (mayX x)) ∧ Below w.heap.size w w' := by
  obtain ⟨kk, tt, AA, nn, cc, rfl, rfl, rfl⟩ := h.forms
  have hx := ((Bx.nil w).row #[.int .i8 kk, .string tt, .slice AA nn cc] 59)
  have hD := Lib.hid (Depth_any x _ _ _ _ (SxIs.below hx.bel _ _ _ _ h))
  have hx' := Lib.hid hx
  have h' := Lib.hid h
  have hm : Hid (mayX x = (decide (depX x ≤ 60) && stX x)) := rfl
  clear hx h
  generalize hd : depX x = dd at *
  clear hd
  go_enter Tryz.func134, Tryz.ntmps134
  go_wp2_with fail
  refine hD.out.mono ?_
  rintro e w2 ⟨rfl, hb2⟩
  have hx2 := hx'.out.step hb2
  obtain ⟨⟨k0, kz⟩, ⟨k1, _⟩, ⟨k2, _⟩, _⟩ := hx2.cells
  have hS := Lib.hid (stands_of x w2 w.heap.size 0 _ _ _ kz k0 k1 k2 (SxIs.below hx2.bel _ _ _ _ h'.out))
  have hbw := Lib.hid hx2.bel
  clear hx2 k0 k1 k2 hb2
  by_cases hle : dd ≤ 60
  · have d0 : decide (dd ≤ 60) = true := decide_eq_true hle
    have hF : Hid (mayX x = stX x) := by unfold Hid; rw [hm.out, d0]; rfl
    clear hle
    go_wp2_with (go_at_call 154; (with_reducible refine hS.out.mono ?_); rintro e w3 ⟨rfl, hb3⟩)
    go_ret
    exact ⟨ret_bool hF.out.symm, hbw.out.trans (hb3.mono hbw.out.size)⟩
  · have d0 : decide (dd ≤ 60) = false := decide_eq_false hle
    have hF : Hid (mayX x = false) := by unfold Hid; rw [hm.out, d0]; rfl
    clear hle
    go_wp2_with fail
    go_ret
    exact ⟨ret_bool hF.out.symm, hbw.out⟩
end Go.Proofs.YtlhnffmbjejphaaGreat
