/- slices.Clone, idl.Lemma. -/
import Derived.Test.YtioceechdombjaaZIdlEIdlN
import Derived.Test.YtioceechdombjaaZAppL
import Derived.Lib.SliceRun
namespace Go.Proofs.Ytioceechdombjaa
open Go.RowKit Go.Maps
set_option maxRecDepth 100000

theorem gfn_map (xs : List Int) : (List.range xs.length).map (gfn xs) = xs := range_getD xs
theorem OwnL.nn {w : World} {b : Nat} (hb : b ≤ w.heap.size) : OwnL (w.alloc (.cells #[] 3)) b (.slice (some ⟨w.heap.size, 0, none⟩) 0 0) [] := OwnG.lit0 w b 3 1 (fun _ => []) hb
theorem wpList_appV {w : World} {ops : Array Oper} {rest : List Oper} {o : Oper} {a : Act} {Q : Exit → Act → World → Prop} (hw : Region.wanted o (yielded ops a.tmps) = true) (p q : Operand)
    (ho : o.op = .call { callee := .builtin .append, args := #[p, q], argTypes := #[27, 27] }) (base : Nat) (v : Value) (xs : List Int) (hp : a.eval p = v) (hown : OwnL w base v xs)
    (x : Value) (ys : List Int) (hq : a.eval q = x) (hx : IntsAt w x ys.length (gfn ys)) (hn : xs.length + ys.length ≤ 1000000) (hb : base ≤ w.heap.size)
    (h : ∀ v' w', OwnL w' base v' (xs ++ ys) → Below base w w' → wpList Try.prog ops Q rest (a.put o.dst v') w') : wpList Try.prog ops Q (o :: rest) a w :=
  BigFrame.wpList_want hw fun _ hK => wp_appL p q ho base v xs hp hown x ys.length (gfn ys) hq hx hn hb fun v' w' h1 h2 _ => hK _ _ (h v' w' (by rwa [gfn_map] at h1) h2)

set_option maxHeartbeats 1000000 in
theorem Clone_any (u : Value) (xs : List Int) (w : World) (hu : IntsAt w u xs.length (gfn xs)) (hm : xs.length ≤ 1000) :
    Calls Try.prog 24 #[u] w fun e w' => ∃ z, e = .returned z ∧ OwnL w' w.heap.size z xs ∧ Below w.heap.size w w' := by
  have hu' := Lib.hid hu
  obtain ⟨A, c, rfl, _, _, hc⟩ := hu
  cases A with
  | none =>
    have h0 : xs = [] := by
      rcases Nat.eq_zero_or_pos xs.length with h | h
      · exact List.length_eq_zero_iff.1 h
      · obtain ⟨b, o, h, _⟩ := hc h; cases h
    subst h0
    go_enter Try.func24, Try.ntmps24
    have he := fun w => Go.Lib.run_eql_slice_nil (P := Try.prog) w 27 3 none 0 c 0 0 Try.underlying27
    go_wp2
    go_ret
    exact ⟨_, rfl, OwnL.nil _ _, Below.refl _ _⟩
  | some ad =>
    have hb0 := (Below.refl w.heap.size w).alloc (Nat.le_refl _) (.cells #[] 3)
    have hu1 := Lib.hid (hu'.out.below hb0)
    have he := fun w => Go.Lib.run_eql_slice_nil (P := Try.prog) w 27 3 (some ad) xs.length c 0 0 Try.underlying27
    go_enter Try.func24, Try.ntmps24
    go_wp2_with (at_builtin; refine wpList_appV (by rfl) _ _ rfl w.heap.size _ _ rfl (OwnL.nn (Nat.le_refl _)) _ xs rfl hu1.out ?c1 ?c2 ?_)
    case c1 => simp; omega
    case c2 => simp
    intro v' w4 hown4 hb4
    go_wp2
    go_ret
    exact ⟨_, rfl, hown4, hb0.trans hb4⟩

/-- A store into a row of the call's own. -/
theorem OwnL.set_at {w : World} {base g n cap : Nat} {xs : List Int} (h : OwnL w base (.slice (some ⟨g, 0, none⟩) n cap) xs) (i : Nat) (hi : i < xs.length) (x : Int) :
    OwnL (w.setCell ⟨g, i, none⟩ (.int .i64 x)) base (.slice (some ⟨g, 0, none⟩) n cap) (xs.set i x) ∧ w.cell? ⟨g, i, none⟩ = some (.int .i64 (gfn xs i)) ∧ w.frozen? ⟨g, i, none⟩ = false ∧ n = xs.length ∧ base ≤ g ∧ g < w.heap.size := by
  obtain ⟨h1, h2⟩ := h
  rcases h2 with ⟨h2, _⟩ | ⟨g', cap', cur, hv, hg, hb, hn, hcap, hsz, htk⟩
  · cases h2
  · injection hv with e1 e2 e3
    injection e1 with e1
    injection e1 with e1 _ _
    subst e1 e2 e3
    have hi' : i < cur.size := by omega
    have hlt := (Array.getElem?_eq_some_iff.1 hb).1
    have hci : cur[i]? = some (.int .i64 (gfn xs i)) := by
      have : (cur.toList.take (xs.length * 1))[i]? = (xs.map fun x => Value.int .i64 x)[i]? := by rw [htk]
      rw [List.getElem?_take_of_lt (by omega), List.getElem?_map, List.getElem?_eq_getElem hi] at this
      rw [← Array.getElem?_toList, this]
      unfold gfn
      rw [List.getD_eq_getElem?_getD, List.getElem?_eq_getElem hi]
      rfl
    refine ⟨⟨by simp, .inr ⟨g, cap, cur.setIfInBounds i (.int .i64 x), by rw [List.length_set], hg, ?_, by rw [List.length_set]; exact hn, hcap, by simpa using hsz, ?_⟩⟩, ?_, ?_, rfl, hg, hlt⟩
    · simp [World.setCell, Array.getElem?_modify, hb]
    · rw [Array.toList_setIfInBounds, List.take_set, List.length_set, htk, List.map_set]
    · simp [World.cell?, hb, hci]
    · simp [World.frozen?, hb]
end Go.Proofs.Ytioceechdombjaa

namespace Go.Proofs.Ytioceechdombjaa
open Go.RowKit Go.Maps
set_option maxRecDepth 100000

def negTo (xs : List Int) (j : Nat) : List Int := (xs.take j).map negL ++ xs.drop j
theorem negTo_len (xs : List Int) (j : Nat) : (negTo xs j).length = xs.length := by unfold negTo; simp; omega
theorem negTo_at (xs : List Int) (j : Nat) (h : j < xs.length) : gfn (negTo xs j) j = gfn xs j := by
  unfold gfn negTo
  rw [List.getD_eq_getElem?_getD, List.getElem?_append_right (by simp; omega), List.length_map, List.length_take, Nat.min_eq_left (by omega), Nat.sub_self, List.getElem?_drop, Nat.add_zero, List.getD_eq_getElem?_getD]
theorem negTo_next (xs : List Int) (j : Nat) (h : j < xs.length) : (negTo xs j).set j (negL (gfn xs j)) = negTo xs (j + 1) := by
  unfold negTo
  rw [take_next xs j h, List.map_append, List.set_append_right _ _ (by simp; omega), List.length_map, List.length_take, Nat.min_eq_left (by omega), Nat.sub_self, List.append_assoc]
  congr 1
  rw [List.drop_eq_getElem_cons h, List.set_cons_zero]
  rfl
theorem negTo_zero (xs : List Int) : negTo xs 0 = xs := by unfold negTo; simp
theorem negTo_all (xs : List Int) : negTo xs xs.length = xs.map negL := by unfold negTo; simp
theorem bad_neg {n : Nat} {N : Nat → Nd} {x : Int} (h : badLit n N x = false) : badLit n N (negL x) = false ∧ 0 ≤ negL x ∧ negL (negL x) = x ∧ negL x / 2 = x / 2 := by
  have h0 := (badLit_lt h).1
  have e : negL x / 2 = x / 2 := by unfold negL; split <;> omega
  refine ⟨?_, by unfold negL; split <;> omega, by unfold negL; split <;> split <;> omega, e⟩
  unfold badLit at *
  rw [e]
  have h1 : decide (negL x < 0) = false := by rw [decide_eq_false_iff_not]; unfold negL; split <;> omega
  have h2 : decide (x < 0) = false := by rw [decide_eq_false_iff_not]; omega
  rw [h2] at h
  rw [h1]
  exact h
theorem bad_R {n : Nat} {N : Nat → Nd} (hn : n ≤ 1000000) {x : Int} (h : badLit n N x = false) : R64 x ∧ x ≤ 2000001 := by
  obtain ⟨h0, h1, _⟩ := badLit_lt h
  unfold R64
  omega

theorem icK_zero {n : Nat} {N : Nat → Nd} {xs : List Int} (h : icB n N xs = true) : icK n N xs = 0 := by
  unfold icB badR at h
  exact (of_decide_eq_true h).1
theorem ckE_zero {n : Nat} {N : Nat → Nd} {xs : List Int} (h : ckB n N xs = true) : ckE n N xs = 0 := by
  unfold ckB at h
  rw [Bool.and_eq_true] at h
  unfold ckE
  rw [if_pos h.1]
  exact icK_zero h.2
theorem Bx.side {w x : World} {K : List (Nat × Nat × Value)} (h : Bx w K x) {b o : Nat} (u : Value) (hne : ∀ a ∈ K, a.1 ≠ b) (hw : w.heap.size ≤ b) : Bx w K (x.setCell ⟨b, o, none⟩ u) := ⟨h.cells.set hne, h.bel.setCell hw _⟩

set_option maxHeartbeats 4000000 in
theorem Lemma_any (v u : Value) (n : Nat) (N : Nat → Nd) (xs : List Int) (w : World) (hv : NdsAt w v n N) (hn : n ≤ 4096) (hch : CheckP n N) (hu : IntsAt w u xs.length (gfn xs)) (hm : xs.length ≤ 1000) (hxs : ∀ x ∈ xs, badLit n N x = false) :
    Calls Try.prog 10 #[.agg #[v], u] w fun e w' => e = .returned (.bool (ckB n N (xs.map negL))) ∧ Below w.heap.size w w' := by
  have hv' := Lib.hid hv
  have hu' := Lib.hid hu
  have hxs' := Lib.hid hxs
  have hch' := Lib.hid hch
  have hneg : Hid (∀ x ∈ xs.map negL, badLit n N x = false) := by
    intro x hx
    obtain ⟨y, hy, rfl⟩ := List.mem_map.1 hx
    exact (bad_neg (hxs y hy)).1
  obtain ⟨A, c, rfl, _, _, hcs⟩ := hv
  obtain ⟨b, o, rfl, hbl, hcs⟩ := hcs (by have := hch.two; omega)
  obtain ⟨U, cu, rfl, _, _, _⟩ := hu
  have hx0 := (Bx.nil w).one (.slice (some ⟨b, o, none⟩) n c) 33
  clear hcs hch hxs
  go_enter Try.func10, Try.ntmps10
  go_wp2_with fail
  refine (Clone_any _ xs _ (hu'.out.below hx0.bel) hm).mono ?_
  rintro e w2 ⟨z2, rfl, ho2, hb2⟩
  have hx2 := hx0.step hb2
  rw [World.size_alloc] at ho2
  obtain ⟨Z, zc, rfl⟩ := ho2.ints (by omega) (fun x hx => (bad_R (by omega) (hxs'.out x hx)).1) |> fun h => (⟨h.choose, h.choose_spec.choose, h.choose_spec.choose_spec.1⟩ : ∃ A c, z2 = .slice A xs.length c)
  have ho2' := Lib.hid ho2
  have hx2' := Lib.hid hx2
  clear ho2 hb2 hx0 hx2
  go_wp2
  go_loopw [15] (fun i wr => ∃ j : Nat, j ≤ xs.length ∧ i = .int .i64 j ∧ Hid (OwnL wr (w.heap.size + 1) (.slice Z xs.length zc) (negTo xs j)) ∧ Hid (Bx w ((w.heap.size, 0, .slice (some ⟨b, o, none⟩) n c) :: []) wr)) (fun i _ => xs.length - (intOf i).toNat)
  case atStart => exact ⟨0, Nat.zero_le _, rfl, by rw [negTo_zero]; exact ho2'.out, hx2'.out⟩
  case round =>
    clear ho2' hx2'
    obtain ⟨j, hj, rfl, hown, hx⟩ := hrel
    by_cases hlt : j < xs.length
    · have hlt' : j < (negTo xs j).length := by rw [negTo_len]; exact hlt
      obtain ⟨g, hg⟩ : ∃ g, Z = some ⟨g, 0, none⟩ := by
        obtain ⟨g, cap, hv, _, _⟩ := World.ownsRow.form hown.out (show 0 < (negTo xs j).length by omega)
        injection hv with e1 _ _
        exact ⟨g, e1⟩
      subst hg
      obtain ⟨hset, hc0, hf0, -, hg0, hgl⟩ := hown.out.set_at j hlt' (negL (gfn xs j))
      rw [negTo_next xs j hlt] at hset
      rw [negTo_at xs j hlt] at hc0
      have hbj := hxs'.out _ (gfn_mem hlt)
      have h0 := (badLit_lt hbj).1
      have h1 := (bad_R (by omega) hbj).2
      have i1 : decide ((j : Int) < (xs.length : Int)) = true := decide_eq_true (by omega)
      have hset' := Lib.hid hset
      clear hset hbj
      generalize gfn xs j = X at *
      have i2 : decide (X < 0) = false := decide_eq_false (by omega)
      go_wp2_with fail
      refine (Neg_any X wr h0 (by omega)).mono ?_
      rintro e w3 ⟨rfl, rfl⟩
      go_wp2
      go_roundw
      case rel => exact ⟨j + 1, by omega, by go_num, hset'.out, hx.out.side _ (by intro a ha; simp at ha; subst ha; show w.heap.size ≠ g; omega) (by omega)⟩
      case measure => simp [intOf]; omega
    · have hjl : j = xs.length := by omega
      have i1 : decide ((j : Int) < (xs.length : Int)) = false := decide_eq_false (by omega)
      rw [hjl, negTo_all] at hown
      obtain ⟨⟨q0, _⟩, -⟩ := hx.out.cells
      have hli := hown.out.ints (by simp; omega) (fun x hx => (bad_R (by omega) (hneg.out x hx)).1)
      have hli' := Lib.hid hli
      clear hli
      go_wp2_with fail
      refine (ICheck_any _ _ n N (xs.map negL) wr (hv'.out.below hx.out.bel) hn hch'.out hli'.out (by simp; omega) hneg.out).mono ?_
      rintro e w5 ⟨z5, rfl, ho5, hb5⟩
      have hR : Hid (ckB n N (xs.map negL) = true → ckE n N (xs.map negL) = 0) := by
        exact ckE_zero
      cases hB : ckB n N (xs.map negL) with
      | true =>
        rw [hR.out hB]
        go_wp2
        go_ret
        exact ⟨by rw [hB]; rfl, hx.out.bel.trans (hb5.mono hx.out.bel.size)⟩
      | false =>
        go_wp2
        go_ret
        exact ⟨by rw [hB]; rfl, hx.out.bel.trans (hb5.mono hx.out.bel.size)⟩
end Go.Proofs.Ytioceechdombjaa

namespace Go.Proofs.Ytioceechdombjaa
open Go.RowKit

theorem edsL_sub {N : Nat → Nd} {a b : List Int} (h : List.Sublist a b) : List.Sublist (edsL N a) (edsL N b) := by
  induction h with
  | slnil => exact List.Sublist.slnil
  | cons x _ ih =>
    rw [edsL]
    split
    · exact ih.cons _
    · exact ih
  | cons_cons x _ ih =>
    rw [edsL, edsL]
    split
    · exact ih.cons_cons _
    · exact ih
def wsum : List Ed → Int
  | [] => 0
  | e :: l => (absI e.wt + 1) + wsum l
theorem wsum_sub {a b : List Ed} (h : List.Sublist a b) : wsum a ≤ wsum b := by
  induction h with
  | slnil => exact Int.le_refl _
  | cons x _ ih => have := absI_nn x.wt; rw [show wsum (x :: _) = (absI x.wt + 1) + wsum _ from rfl]; omega
  | cons_cons x _ ih => rw [show wsum (x :: _) = (absI x.wt + 1) + wsum _ from rfl, show wsum (x :: _) = (absI x.wt + 1) + wsum _ from rfl]; omega
theorem sumN_hd : ∀ (m : Nat) (f : Nat → Int), sumN f (m + 1) = f 0 + sumN (fun i => f (i + 1)) m
  | 0, f => by show sumN f 0 + f 0 = f 0 + 0; rw [show sumN f 0 = 0 from rfl]; omega
  | m + 1, f => by
    show sumN f (m + 1) + f (m + 1) = f 0 + (sumN (fun i => f (i + 1)) m + f (m + 1))
    rw [sumN_hd m f]; omega
theorem wsum_eq : ∀ L : List Ed, sumN (fun i => absI (eF L i).wt + 1) L.length = wsum L
  | [] => rfl
  | e :: l => by
    rw [List.length_cons, sumN_hd]
    have : (fun i => absI (eF (e :: l) (i + 1)).wt + 1) = fun i => absI (eF l i).wt + 1 := by
      funext i
      rfl
    rw [this, wsum_eq l]
    rfl
theorem icK_iff {n : Nat} {N : Nat → Nd} (hc : CheckP n N) (hn : n ≤ 4096) {xs : List Int} (hxs : ∀ x ∈ xs, badLit n N x = false) :
    icK n N xs = 0 ↔ (∀ e ∈ edsL N xs, -4611686018427387904 ≤ e.wt ∧ e.wt ≤ 4611686018427387904) ∧ wsum (edsL N xs) ≤ 4611686018427387904 := by
  have he : edsB n (icF N xs) (icM N xs) = true := by
    rw [edsB_iff]
    unfold icF icM
    rw [eF_all (fun e => 0 ≤ e.src ∧ e.src < (n : Int) ∧ 0 ≤ e.dst ∧ e.dst < (n : Int))]
    intro e he
    obtain ⟨x, hx, hd, rfl⟩ := edsL_mem.1 he
    obtain ⟨_, h1, g0, g1, g2, g3, g4, g5⟩ := diff_at hc (hxs x hx) hd
    unfold edOf
    split
    · exact ⟨g0, g1, g2, g3⟩
    · exact ⟨g2, g3, g0, g1⟩
  have hst : sumTo (fun i => (icF N xs i).wt) 4611686018427387904 (icM N xs) ≠ none ↔ (∀ e ∈ edsL N xs, -4611686018427387904 ≤ e.wt ∧ e.wt ≤ 4611686018427387904) ∧ wsum (edsL N xs) ≤ 4611686018427387904 := by
    rw [sumTo_iff (by omega)]
    unfold icF icM
    rw [eF_all (fun e => -4611686018427387904 ≤ e.wt ∧ e.wt ≤ 4611686018427387904), wsum_eq]
  rw [← hst]
  constructor
  · intro h
    exact (check_un (n := (n : Int)) (m := icM N xs) (E := icF N xs) h).2.2.2
  · intro h
    exact check_mk (by omega) (by omega) he h
theorem icK_sub {n : Nat} {N : Nat → Nd} (hc : CheckP n N) (hn : n ≤ 4096) {a b : List Int} (hs : List.Sublist a b) (hxs : ∀ x ∈ b, badLit n N x = false) (h : icK n N b = 0) : icK n N a = 0 := by
  rw [icK_iff hc hn hxs] at h
  rw [icK_iff hc hn fun x hx => hxs x (hs.subset hx)]
  have he := edsL_sub (N := N) hs
  exact ⟨fun e hx => h.1 e (he.subset hx), Int.le_trans (wsum_sub he) h.2⟩
theorem icB_iff {n : Nat} {N : Nat → Nd} {xs : List Int} (h : icK n N xs = 0) : icB n N xs = true ↔ ¬ ∃ x, HoldL (edsL N xs) x := by
  have := bad_iff (n := (n : Int)) (m := icM N xs) (E := icF N xs) h
  unfold icB
  rw [this]
  constructor
  · rintro h ⟨x, hx⟩; exact h ⟨x, feas_hold.2 hx⟩
  · rintro h ⟨x, hx⟩; exact h ⟨x, feas_hold.1 hx⟩
/-- More edges are no less bad. -/
theorem icB_mono {n : Nat} {N : Nat → Nd} {a b : List Int} (hs : ∀ e ∈ edsL N a, e ∈ edsL N b) (ha : icK n N a = 0) (hb : icK n N b = 0) (h : icB n N a = true) : icB n N b = true := by
  rw [icB_iff ha] at h
  rw [icB_iff hb]
  rintro ⟨x, hx⟩
  exact h ⟨x, fun e he => hx e (hs e he)⟩
theorem erase_sub (l : List Int) (i : Nat) : List.Sublist (l.eraseIdx i) l := List.eraseIdx_sublist l i
/-- What Conflict hands back. -/
structure ConfP (n : Nat) (N : Nat → Nd) (xs c : List Int) : Prop where
  sub : List.Sublist c xs
  bad : icB n N c = true
  least : ∀ i, i < c.length → icB n N (c.eraseIdx i) = false
/-- The invariant of its loop. -/
structure ConfI (n : Nat) (N : Nat → Nd) (xs c : List Int) (i : Nat) : Prop where
  sub : List.Sublist c xs
  bad : icB n N c = true
  least : ∀ j, j < i → icB n N (c.eraseIdx j) = false
  le : i ≤ c.length
theorem erase_two (l : List Int) (i j : Nat) (h : j < i) : List.Sublist ((l.eraseIdx i).eraseIdx j) (l.eraseIdx j) := by
  induction l generalizing i j with
  | nil => simp
  | cons a l ih =>
    cases i with
    | zero => omega
    | succ i =>
      cases j with
      | zero => simpa using erase_sub l i
      | succ j => simpa using (ih i j (by omega)).cons_cons a
theorem ConfI.down {n : Nat} {N : Nat → Nd} (hc : CheckP n N) (hn : n ≤ 4096) {xs c : List Int} {i : Nat} (hxs : ∀ x ∈ xs, badLit n N x = false) (hk : icK n N xs = 0) (h : ConfI n N xs c i) (hi : i < c.length) (hb : icB n N (c.eraseIdx i) = true) : ConfI n N xs (c.eraseIdx i) i := by
  refine ⟨(erase_sub c i).trans h.sub, hb, fun j hj => ?_, by rw [List.length_eraseIdx_of_lt hi]; omega⟩
  have h1 := h.least j hj
  cases h2 : icB n N ((c.eraseIdx i).eraseIdx j) with
  | false => rfl
  | true =>
    have hs := erase_two c i j hj
    have k1 : icK n N ((c.eraseIdx i).eraseIdx j) = 0 := icK_sub hc hn ((erase_sub _ j).trans ((erase_sub c i).trans h.sub)) hxs hk
    have k2 : icK n N (c.eraseIdx j) = 0 := icK_sub hc hn ((erase_sub c j).trans h.sub) hxs hk
    rw [icB_mono (fun e he => (edsL_sub hs).subset he) k1 k2 h2] at h1
    cases h1
theorem ConfI.on {n : Nat} {N : Nat → Nd} {xs c : List Int} {i : Nat} (h : ConfI n N xs c i) (hi : i < c.length) (hb : icB n N (c.eraseIdx i) = false) : ConfI n N xs c (i + 1) :=
  ⟨h.sub, h.bad, fun j hj => by
    by_cases e : j = i
    · subst e; exact hb
    · exact h.least j (by omega), by omega⟩
theorem ConfI.done {n : Nat} {N : Nat → Nd} {xs c : List Int} {i : Nat} (h : ConfI n N xs c i) (hi : ¬ i < c.length) : ConfP n N xs c := ⟨h.sub, h.bad, fun j hj => h.least j (by omega)⟩
theorem ConfI.ne {n : Nat} {N : Nat → Nd} {xs c : List Int} {i : Nat} (h : ConfI n N xs c i) : 0 < c.length := by
  rcases Nat.eq_zero_or_pos c.length with h0 | h0
  · have : c = [] := List.length_eq_zero_iff.1 h0
    have hb := h.bad
    rw [this] at hb
    have hk : icK n N [] = 0 := icK_zero hb
    exact absurd ⟨fun _ => 0, fun e he => by cases he⟩ ((icB_iff hk).1 hb)
  · exact h0
end Go.Proofs.Ytioceechdombjaa
