/- sexpr.Depth, stands, list, May: by induction on the expression. -/
import Derived.Test.YthkbekfdjfmmbaaSexB
namespace Go.Proofs.Ythkbekfdjfmmbaa
open Go.RowKit
set_option maxRecDepth 100000

def maxUp : Nat → (Nat → Int) → Int
  | 0, _ => 0
  | n + 1, f => max (maxUp n f) (f n)
theorem maxUp_nonneg (n : Nat) (f : Nat → Int) : 0 ≤ maxUp n f := by
  induction n with
  | zero => exact Int.le_refl _
  | succ n ih => rw [maxUp]; omega
def depX : Sx → Int
  | .nil => 0
  | .mk k _ n l => if k = 3 then wrap64 (maxUp n (fun i => depX (l i)) + 1) else 0
def stX : Sx → Bool
  | .nil => false
  | .mk k t n l => if k = 0 then symB n t else if k = 1 then nmB n t else if k = 2 then kwB n t else if k = 3 then t.toList.isEmpty && upTo n (fun i => stX (l i)) else false
def mayX (x : Sx) : Bool := decide (depX x ≤ 60) && stX x
theorem wrap_R64 (x : Int) : R64 (wrap64 x) := by unfold wrap64 R64; omega
theorem depX_R : ∀ x, R64 (depX x)
  | .nil => ⟨by decide, by decide⟩
  | .mk k _ n l => by
    rw [depX]
    split
    · exact wrap_R64 _
    · exact ⟨by decide, by decide⟩
theorem maxUp_le {n : Nat} {f : Nat → Int} (h : ∀ i, i < n → f i ≤ 9223372036854775807) : maxUp n f ≤ 9223372036854775807 := by
  induction n with
  | zero => show (0 : Int) ≤ _; decide
  | succ n ih => rw [maxUp]; have := ih fun i hi => h i (by omega); have := h n (by omega); omega
theorem SxIs.forms {w : World} {x : Sx} {kv tv lv : Value} (h : SxIs w x kv tv lv) : ∃ kk tt A nn cc, kv = .int .i8 kk ∧ tv = .string tt ∧ lv = .slice A nn cc := by
  cases x with
  | nil => exact h.elim
  | mk k t n l =>
    obtain ⟨rfl, _, rfl, _, A, c, rfl, _⟩ := h.row
    exact ⟨_, _, _, _, _, rfl, rfl, rfl⟩
theorem max_if (m d : Int) : (if m < d then d else m) = max m d := by split <;> omega

set_option maxHeartbeats 1000000 in
theorem Depth_any : ∀ (x : Sx) (kv tv lv : Value) (w : World), SxIs w x kv tv lv →
    Calls Try.prog 87 #[.agg #[kv, tv, lv]] w fun e w' => e = .returned (.int .i64 (depX x)) ∧ Below w.heap.size w w'
  | .nil, _, _, _, _, h => h.elim
  | .mk k t n l, kv, tv, lv, w, h => by
    have ih := fun i => Depth_any (l i)
    obtain ⟨rfl, hk, rfl, ht, hl⟩ := h.row
    have hl' := Lib.hid hl
    obtain ⟨A, c, rfl, ⟨hn, hc⟩, _⟩ := hl
    by_cases h3 : k = 3
    · subst h3
      have hR : Hid (depX (.mk 3 t n l) = wrap64 (maxUp n (fun i => depX (l i)) + 1)) := by unfold Hid; rw [depX, if_pos rfl]
      have ih' := Lib.hid ih
      clear ih h
      have hx0 := Lib.hid ((Bx.nil w).row #[.int .i8 3, .string t, .slice A n c] 41)
      go_enter Try.func87, Try.ntmps87
      go_wp2_with fail
      go_loopw [3, 5, 12] (fun d _ i wr => ∃ j : Nat, j ≤ n ∧ i = .int .i64 j ∧ d = .int .i64 (maxUp j fun i => depX (l i)) ∧ Hid (Below w.heap.size w wr)) (fun _ _ i _ => n - (intOf i).toNat)
      case atStart => exact ⟨0, Nat.zero_le _, rfl, rfl, (Below.refl _ _).alloc (Nat.le_refl _) _⟩
      case round =>
        obtain ⟨j, hj, rfl, rfl, hbr⟩ := hrel
        by_cases hlt : j < n
        · have i1 : decide ((j : Int) < (n : Int)) = true := decide_eq_true (by omega)
          obtain ⟨_, _, e, _, hcs⟩ := hl'.out.below hbr.out
          injection e with e1 _ e3
          subst e1; subst e3
          obtain ⟨b, o, rfl, hbl, hcs⟩ := hcs (by omega)
          obtain ⟨k', t', l', c0, c1, c2, hx⟩ := hcs j hlt
          obtain ⟨kk, tt, AA, nn, cc, rfl, rfl, rfl⟩ := hx.forms
          clear hcs
          have hsz := hbr.out.size
          have hcall := Lib.hid (ih'.out j _ _ _ _ (SxIs.below ((Below.refl wr.heap.size wr).alloc (Nat.le_refl _) (.cells #[.int .i8 kk, .string tt, .slice AA nn cc] 41)) _ _ _ _ hx))
          have hmx := maxUp_nonneg j fun i => depX (l i)
          generalize hm : (maxUp j fun i => depX (l i)) = m at *
          generalize hd : depX (l j) = dd at *
          have hmax : Hid ((maxUp (j + 1) fun i => depX (l i)) = max m dd) := by unfold Hid; rw [maxUp, hm, hd]
          clear hm hd hx
          go_wp2_with (go_at_call 87; (with_reducible refine hcall.out.mono ?_); rintro e w2 ⟨rfl, hb2⟩)
          go_roundw
          case rel => exact ⟨j + 1, by omega, by go_num, by rw [hmax.out, max_if], hbr.out.trans ((((Below.refl _ _).alloc (Nat.le_refl _) _).trans (hb2.mono (by simp))).mono hsz)⟩
          case measure => simp [intOf]; omega
        · have i1 : decide ((j : Int) < (n : Int)) = false := decide_eq_false (by omega)
          have hjn : Hid (j = n) := by unfold Hid; omega
          generalize hm : (maxUp j fun i => depX (l i)) = m at *
          have hF : Hid (depX (.mk 3 t n l) = wrap64 (m + 1)) := by unfold Hid; rw [hR.out, ← hm, hjn.out]
          clear hm
          go_wp2_with fail
          go_ret
          exact ⟨ret_int hF.out.symm, hbr.out⟩
    · have hR : Hid (depX (.mk k t n l) = 0) := by unfold Hid; rw [depX, if_neg h3]
      have d0 : (k != 3) = true := by simpa using h3
      clear h3 ih h
      go_enter Try.func87, Try.ntmps87
      go_wp2_with fail
      go_ret
      exact ⟨ret_int hR.out.symm, (Below.refl _ _).alloc (Nat.le_refl _) _⟩

def StP (x : Sx) : Prop := ∀ (w : World) (b o : Nat) (kv tv lv : Value), b < w.heap.size → w.cell? ⟨b, o, none⟩ = some kv → w.cell? ⟨b, o + 1, none⟩ = some tv → w.cell? ⟨b, o + 2, none⟩ = some lv → SxIs w x kv tv lv →
  Calls Try.prog 88 #[.pointer (some ⟨b, o, none⟩)] w fun e w' => e = .returned (.bool (stX x)) ∧ Below w.heap.size w w'
theorem list1_of (x : Sx) (ih : StP x) (kv tv lv : Value) (w : World) (h : SxIs w x kv tv lv) :
    Calls Try.prog 113 #[.agg #[kv, tv, lv]] w fun e w' => e = .returned (.bool (!stX x)) ∧ Below w.heap.size w w' := by
  have hx := ((Bx.nil w).row #[kv, tv, lv] 41)
  obtain ⟨⟨k0, kz⟩, ⟨k1, _⟩, ⟨k2, _⟩, _⟩ := hx.cells
  have hc := Lib.hid (ih _ w.heap.size 0 kv tv lv kz k0 k1 k2 (SxIs.below hx.bel _ _ _ _ h))
  clear k0 k1 k2 hx ih
  go_enter Try.func113, Try.ntmps113
  go_wp2_with (go_at_call 88; (with_reducible refine hc.out.mono ?_); rintro e w2 ⟨rfl, hb2⟩)
  go_ret
  exact ⟨rfl, ((Below.refl _ _).alloc (Nat.le_refl _) _).trans (hb2.mono (by simp))⟩
set_option maxHeartbeats 1000000 in
theorem idx_sx (v : Value) (n : Nat) (l : Nat → Sx) (ih : ∀ i, StP (l i)) (w : World) (hv : SxsAt w v n l) :
    Calls Try.prog 119 #[v, .func (.func 113) #[] #[]] w fun e w' => e = .returned (.int .i64 (firstI n fun i => !stX (l i))) ∧ Below w.heap.size w w' := by
  have hv' := Lib.hid hv
  have ih' := Lib.hid ih
  clear ih
  obtain ⟨A, c, rfl, ⟨hn, hc⟩, _⟩ := hv
  go_enter Try.func119, Try.ntmps119
  go_wp2_with fail
  go_loopw [5, 8] (fun _ i wr => ∃ j : Nat, j ≤ n ∧ i = .int .i64 j ∧ Hid (∀ k, k < j → (!stX (l k)) = false) ∧ Hid (Below w.heap.size w wr)) (fun _ i _ => n - (intOf i).toNat)
  case atStart => exact ⟨0, Nat.zero_le _, rfl, fun k hk => absurd hk (Nat.not_lt_zero _), Below.refl _ _⟩
  case round =>
    obtain ⟨j, hj, rfl, hall, hbr⟩ := hrel
    by_cases hlt : j < n
    · have i1 : decide ((j : Int) < (n : Int)) = true := decide_eq_true (by omega)
      obtain ⟨_, _, e, _, hcs⟩ := hv'.out.below hbr.out
      injection e with e1 _ e3
      subst e1; subst e3
      obtain ⟨b, o, rfl, hbl, hcs⟩ := hcs (by omega)
      obtain ⟨k', t', l', c0, c1, c2, hx⟩ := hcs j hlt
      clear hcs
      have hsz := hbr.out.size
      have hcl := Lib.hid (list1_of (l j) (ih'.out j) k' t' l' wr hx)
      clear hx
      cases hq : (!stX (l j)) with
      | true =>
        have hF := Lib.hid (firstI_hit (p := fun i => !stX (l i)) hlt hall.out hq)
        rw [hq] at hcl
        clear hq
        go_wp2_with (go_at_call 113; (with_reducible refine hcl.out.mono ?_); rintro e w2 ⟨rfl, hb2'⟩)
        go_ret
        exact ⟨ret_int hF.out.symm, hbr.out.trans (hb2'.mono hsz)⟩
      | false =>
        have hq' := Lib.hid hq
        rw [hq] at hcl
        clear hq
        go_wp2_with (go_at_call 113; (with_reducible refine hcl.out.mono ?_); rintro e w2 ⟨rfl, hb2'⟩)
        go_roundw
        case rel => exact ⟨j + 1, by omega, by go_num, fun k hk => by
          by_cases e : k = j
          · subst e; exact hq'.out
          · exact hall.out k (by omega), hbr.out.trans (hb2'.mono hsz)⟩
        case measure => simp [intOf]; omega
    · have i1 : decide ((j : Int) < (n : Int)) = false := decide_eq_false (by omega)
      have hF := Lib.hid (firstI_none (n := n) (p := fun i => !stX (l i)) fun i hi => hall.out i (by omega))
      go_wp2_with fail
      go_ret
      exact ⟨ret_int hF.out.symm, hbr.out⟩
theorem has_sx (v : Value) (n : Nat) (l : Nat → Sx) (ih : ∀ i, StP (l i)) (w : World) (hv : SxsAt w v n l) :
    Calls Try.prog 112 #[v, .func (.func 113) #[] #[]] w fun e w' => e = .returned (.bool (!upTo n fun i => stX (l i))) ∧ Below w.heap.size w w' := by
  have hI := Lib.hid (idx_sx v n l ih w hv)
  have hF := Lib.hid ((upTo_first n fun i => !stX (l i)).trans (by rw [upTo_congr fun i _ => Bool.not_not _]))
  generalize (firstI n fun i => !stX (l i)) = r at *
  go_enter Try.func112, Try.ntmps112
  go_wp2_with (go_at_call 119; refine hI.out.mono ?_; rintro e w' ⟨rfl, hb⟩)
  go_ret
  exact ⟨ret_bool hF.out, hb⟩
theorem list_of (n : Nat) (l : Nat → Sx) (ih : ∀ i, StP (l i)) (t : ByteArray) (b o : Nat) (lv : Value) (w : World) (hv : SxsAt w lv n l) (c1 : w.cell? ⟨b, o + 1, none⟩ = some (.string t)) (c2 : w.cell? ⟨b, o + 2, none⟩ = some lv) :
    Calls Try.prog 103 #[.pointer (some ⟨b, o, none⟩)] w fun e w' => e = .returned (.bool (t.toList.isEmpty && upTo n fun i => stX (l i))) ∧ Below w.heap.size w w' := by
  have hh := Lib.hid (has_sx lv n l ih w hv)
  clear ih hv
  generalize (upTo n fun i => stX (l i)) = u at *
  cases he : t.toList.isEmpty with
  | true =>
    go_enter Try.func103, Try.ntmps103
    go_wp2_with (go_at_call 112; (with_reducible refine hh.out.mono ?_); rintro e w2 ⟨rfl, hb2⟩)
    go_ret
    exact ⟨by simp, hb2⟩
  | false =>
    go_enter Try.func103, Try.ntmps103
    go_wp2_with fail
    go_ret
    exact ⟨rfl, Below.refl _ _⟩
set_option maxHeartbeats 1000000 in
theorem stands_of : ∀ x, StP x
  | .nil => fun _ _ _ _ _ _ _ _ _ _ h => h.elim
  | .mk k t n l => by
    have ih := fun i => stands_of (l i)
    intro w b o kv tv lv hb c0 c1 c2 h
    obtain ⟨rfl, hk, rfl, ht, hl⟩ := h.row
    have hL := Lib.hid (list_of n l ih t b o lv w hl c1 c2)
    obtain ⟨A, c, rfl, _, _⟩ := hl
    have hS := Lib.hid (symbol_any b o t A n c w c1 c2 ht)
    have hN := Lib.hid (numeral_any b o t A n c w hb c1 c2 ht)
    have hW := Lib.hid (keyword_any b o t A n c w hb c1 c2 ht)
    have hE : Hid (stX (.mk k t n l) = if k = 0 then symB n t else if k = 1 then nmB n t else if k = 2 then kwB n t else if k = 3 then t.toList.isEmpty && upTo n (fun i => stX (l i)) else false) := by unfold Hid; rw [stX]
    clear ih h c1 c2
    by_cases h0 : k = 0
    · subst h0
      go_enter Try.func88, Try.ntmps88
      go_wp2_with (go_at_call 100; (with_reducible refine hS.out.mono ?_); rintro e w2 ⟨rfl, rfl⟩)
      go_ret
      exact ⟨by rw [hE.out]; rfl, Below.refl _ _⟩
    · by_cases h1 : k = 1
      · subst h1
        go_enter Try.func88, Try.ntmps88
        go_wp2_with (go_at_call 101; (with_reducible refine hN.out.mono ?_); rintro e w2 ⟨rfl, hb2⟩)
        go_ret
        exact ⟨by rw [hE.out]; rfl, hb2⟩
      · by_cases h2 : k = 2
        · subst h2
          go_enter Try.func88, Try.ntmps88
          go_wp2_with (go_at_call 102; (with_reducible refine hW.out.mono ?_); rintro e w2 ⟨rfl, hb2⟩)
          go_ret
          exact ⟨by rw [hE.out]; rfl, hb2⟩
        · by_cases h3 : k = 3
          · subst h3
            go_enter Try.func88, Try.ntmps88
            go_wp2_with (go_at_call 103; (with_reducible refine hL.out.mono ?_); rintro e w2 ⟨rfl, hb2⟩)
            go_ret
            exact ⟨by rw [hE.out]; rfl, hb2⟩
          · have hF : Hid (stX (.mk k t n l) = false) := by unfold Hid; rw [hE.out, if_neg h0, if_neg h1, if_neg h2, if_neg h3]
            have e0 : (k == 0) = false := by simpa using h0
            have e1 : (k == 1) = false := by simpa using h1
            have e2 : (k == 2) = false := by simpa using h2
            have e3 : (k == 3) = false := by simpa using h3
            clear h0 h1 h2 h3
            go_enter Try.func88, Try.ntmps88
            go_wp2_with fail
            go_ret
            exact ⟨ret_bool hF.out.symm, Below.refl _ _⟩
theorem XMay_any (x : Sx) (kv tv lv : Value) (w : World) (h : SxIs w x kv tv lv) :
    Calls Try.prog 67 #[.agg #[kv, tv, lv]] w fun e w' => e = .returned (.bool (mayX x)) ∧ Below w.heap.size w w' := by
  obtain ⟨kk, tt, AA, nn, cc, rfl, rfl, rfl⟩ := h.forms
  have hx := ((Bx.nil w).row #[.int .i8 kk, .string tt, .slice AA nn cc] 41)
  have hD := Lib.hid (Depth_any x _ _ _ _ (SxIs.below hx.bel _ _ _ _ h))
  have hx' := Lib.hid hx
  have h' := Lib.hid h
  have hm : Hid (mayX x = (decide (depX x ≤ 60) && stX x)) := rfl
  clear hx h
  generalize hd : depX x = dd at *
  clear hd
  go_enter Try.func67, Try.ntmps67
  go_wp2_with fail
  refine hD.out.mono ?_
  rintro e w2 ⟨rfl, hb2⟩
  have hx2 := hx'.out.step hb2
  obtain ⟨⟨k0, kz⟩, ⟨k1, _⟩, ⟨k2, _⟩, _⟩ := hx2.cells
  have hS := Lib.hid (stands_of x w2 w.heap.size 0 _ _ _ kz k0 k1 k2 (SxIs.below hx2.bel _ _ _ _ h'.out))
  have hbw := Lib.hid hx2.bel
  clear hx2 k0 k1 k2 hb2
  by_cases hle : dd ≤ 60
  · have d0 : decide (dd ≤ 60) = true := decide_eq_true hle
    have hF : Hid (mayX x = stX x) := by unfold Hid; rw [hm.out, d0]; rfl
    clear hle
    go_wp2_with (go_at_call 88; (with_reducible refine hS.out.mono ?_); rintro e w3 ⟨rfl, hb3⟩)
    go_ret
    exact ⟨ret_bool hF.out.symm, hbw.out.trans (hb3.mono hbw.out.size)⟩
  · have d0 : decide (dd ≤ 60) = false := decide_eq_false hle
    have hF : Hid (mayX x = false) := by unfold Hid; rw [hm.out, d0]; rfl
    clear hle
    go_wp2_with fail
    go_ret
    exact ⟨ret_bool hF.out.symm, hbw.out⟩
end Go.Proofs.Ythkbekfdjfmmbaa
