/- atoms.Euf, atoms.Idl: what they hand back; append of a slice of numbers. -/
import Derived.Test.YtoppfcfalciibaaEufA
import Derived.Test.YtoppfcfalciibaaOwn
import Derived.Deep.Onto
namespace Go.Proofs.Ytoppfcfalciibaa
open Go.RowKit Go.Maps
set_option maxRecDepth 100000

theorem OwnL.low {w : World} {b b' : Nat} {v : Value} {xs : List Int} (h : OwnL w b v xs) (hb : b' ≤ b) : OwnL w b' v xs := World.ownsRow.mono h hb
theorem flat_one {α β : Type} (h : α → β) (l : List α) : l.flatMap (fun i => [h i]) = l.map h := by
  induction l with
  | nil => rfl
  | cons a l ih => simp [List.flatMap_cons, ih]
theorem range_getD (xs : List Int) : (List.range xs.length).map (fun i => xs.getD i 0) = xs := by
  apply List.ext_getElem
  · simp
  · intro i h1 h2
    rw [List.getElem_map, List.getElem_range, getD_lt _ _ h2]
theorem OwnL.toG {w : World} {b : Nat} {v : Value} {xs : List Int} (h : OwnL w b v xs) : OwnG w b 3 1 v xs.length (fun i => [.int .i64 (xs.getD i 0)]) := by
  unfold OwnG
  rw [flat_one]
  have e : (List.range xs.length).map (fun i => Value.int .i64 (xs.getD i 0)) = xs.map fun x => Value.int .i64 x := by
    exact ((List.map_map (f := fun i => xs.getD i 0) (g := fun x => Value.int .i64 x)).symm).trans (by rw [range_getD])
  rw [e]
  exact h
theorem OwnL.ofG {w : World} {b n : Nat} {v : Value} {f : Nat → Int} (h : OwnG w b 3 1 v n (fun i => [.int .i64 (f i)])) : OwnL w b v ((List.range n).map f) := by
  unfold OwnG at h
  rw [flat_one] at h
  unfold OwnL
  rw [List.length_map, List.length_range, List.map_map]
  exact h
theorem IntsAt.sl {w : World} {v : Value} {n : Nat} {f : Nat → Int} (h : IntsAt w v n f) : SlAt w 1 v n (fun i => [.int .i64 (f i)]) := by
  obtain ⟨A, c, rfl, _, _, hc⟩ := h
  refine ⟨A, c, rfl, fun _ => rfl, fun h0 => ?_⟩
  obtain ⟨b, o, rfl, hb, hc⟩ := hc h0
  refine ⟨b, o, rfl, hb, fun i hi r u hu => ?_⟩
  cases r with
  | zero =>
    simp at hu
    subst hu
    have := hc i hi
    simpa using this
  | succ r => simp at hu
theorem wp_appL {o : Oper} {a : Act} {K : Act → World → Prop} {Q : Exit → Act → World → Prop} {w : World} (p q : Operand)
    (ho : o.op = .call { callee := .builtin .append, args := #[p, q], argTypes := #[41, 41] }) (base : Nat) (v : Value) (xs : List Int) (hp : a.eval p = v) (hown : OwnL w base v xs)
    (x : Value) (m : Nat) (f : Nat → Int) (hq : a.eval q = x) (hx : IntsAt w x m f) (hn : xs.length + m ≤ 1000000) (hb : base ≤ w.heap.size)
    (h : ∀ v' w', OwnL w' base v' (xs ++ (List.range m).map f) → Below base w w' → w.grownBy w' v.ownBlock → K (a.put o.dst v') w') : o.wp Try.prog a w K Q := by
  obtain ⟨i0, hi, hz0, hz1, hz2⟩ := info_parts info_int
  refine wp_append_src p q 41 ho i0 _ 8 Try.underlying41 hi hz0 hz1 hz2 rfl (by decide) hp hown.toG x hq hx.sl ?_ (by unfold maxLen; omega) (by omega) hb ?_
  · intro i _ u hu
    simp at hu
    subst hu
    rfl
  · intro v' w' h1 h2
    refine h v' w' ?_ ((Below.refl base w).grown h2 hb (fun k hk => (World.ownsRow.lt hown k hk).1)) h2
    have h3 : OwnG w' base 3 1 v' (xs.length + m) (fun i => [.int .i64 (if i < xs.length then xs.getD i 0 else f (i - xs.length))]) := h1.congr fun i _ => by split <;> rfl
    have h4 := OwnL.ofG h3
    have e : (List.range (xs.length + m)).map (fun i => if i < xs.length then xs.getD i 0 else f (i - xs.length)) = xs ++ (List.range m).map f := by
      rw [List.range_add, List.map_append, List.map_map]
      congr 1
      · refine Eq.trans (List.map_congr_left fun i hi => ?_) (range_getD xs)
        rw [if_pos (List.mem_range.1 hi)]
      · refine List.map_congr_left fun i _ => ?_
        show (if xs.length + i < xs.length then _ else _) = _
        rw [if_neg (by omega), Nat.add_sub_cancel_left]
    rwa [e] at h4

/-- What Euf, Idl hand back. -/
noncomputable def eufL (n : Nat) (N : Nat → Nd) (m : Nat) (f : Nat → Int) : List Int := if mayT n N m f = true then filtL (eufB n N) f m else []
noncomputable def idlL (n : Nat) (N : Nat → Nd) (m : Nat) (f : Nat → Int) : List Int := if mayT n N m f = true then filtL (idlB n N) f m else []
def LsPost (xs : List Int) (w : World) (e : Ending) (w' : World) : Prop := ∃ v, e = .returned v ∧ OwnL w' w.heap.size v xs ∧ Below w.heap.size w w'

set_option maxHeartbeats 4000000 in
theorem Idl_any (v u : Value) (n m : Nat) (N : Nat → Nd) (f : Nat → Int) (w : World) (hv : NdsAt w v n N) (hn : n ≤ 1000000) (hu : IntsAt w u m f) (hm : m ≤ 1000000) :
    Calls Try.prog 36 #[.agg #[v], u] w (LsPost (idlL n N m f) w) := by
  have hv' := Lib.hid hv
  have hu' := Lib.hid hu
  have hM := fun x (hb : Below w.heap.size w x) => AMay_any v u n m N f x (hv.below hb) hn (hu.below hb)
  obtain ⟨A, c, rfl, _, _, _⟩ := hv
  obtain ⟨U, cu, rfl, _, hRu, _⟩ := hu
  have hRu' := Lib.hid hRu
  have hx0 := (Bx.nil w).one (.slice A n c) 24
  clear hRu
  cases hmy : mayT n N m f with
  | true =>
    have hL : Hid (idlL n N m f = filtL (idlB n N) f m) := if_pos hmy
    rw [hmy] at hM
    clear hmy
    go_enter Try.func36, Try.ntmps36
    go_wp2_with fail
    refine (hM _ hx0.bel).mono ?_
    rintro x w2 ⟨rfl, hb2⟩
    have hx2 := hx0.step hb2
    clear hM
    go_wp2_with fail
    refine (OnlyI_any (.pointer (some ⟨w.heap.size, 0, none⟩)) _ m f (idlB n N) w2 (hu'.out.below hx2.bel) hm fun j hj wr hb => ?_).mono ?_
    · have hx3 := hx2.step hb
      exact IdlF_any (f j) w.heap.size A n c N wr hx3.cells.1.1 (hv'.out.below hx3.bel) hn (hRu'.out j hj)
    rintro x w3 ⟨v3, rfl, ho3, hb3⟩
    have hx3 := hx2.step hb3
    have ho3' := Lib.hid ho3
    clear ho3
    go_wp2
    go_ret
    exact ⟨_, rfl, by rw [hL.out]; exact ho3'.out.low hx2.bel.size, hx3.bel⟩
  | false =>
    have hL : Hid (idlL n N m f = []) := if_neg (by rw [hmy]; exact Bool.false_ne_true)
    rw [hmy] at hM
    clear hmy
    go_enter Try.func36, Try.ntmps36
    go_wp2_with fail
    refine (hM _ hx0.bel).mono ?_
    rintro x w2 ⟨rfl, hb2⟩
    have hx2 := hx0.step hb2
    clear hM
    go_wp2
    go_ret
    exact ⟨_, rfl, by rw [hL.out]; exact OwnL.nil _ _, hx2.bel⟩

set_option maxHeartbeats 4000000 in
theorem Euf_any (v u : Value) (n m : Nat) (N : Nat → Nd) (f : Nat → Int) (w : World) (hv : NdsAt w v n N) (hn : n ≤ 1000000) (hu : IntsAt w u m f) (hm : m ≤ 1000000) :
    Calls Try.prog 35 #[.agg #[v], u] w (LsPost (eufL n N m f) w) := by
  have hv' := Lib.hid hv
  have hu' := Lib.hid hu
  have hM := fun x (hb : Below w.heap.size w x) => AMay_any v u n m N f x (hv.below hb) hn (hu.below hb)
  obtain ⟨A, c, rfl, _, _, _⟩ := hv
  obtain ⟨U, cu, rfl, _, hRu, _⟩ := hu
  have hRu' := Lib.hid hRu
  have hx0 := (Bx.nil w).one (.slice A n c) 24
  clear hRu
  cases hmy : mayT n N m f with
  | true =>
    have hch : Hid (CheckP n N) := by
      by_cases h : CheckP n N
      · exact h
      · rw [mayT_no h] at hmy; exact absurd hmy Bool.false_ne_true
    have hL : Hid (eufL n N m f = filtL (eufB n N) f m) := if_pos hmy
    rw [hmy] at hM
    clear hmy
    go_enter Try.func35, Try.ntmps35
    go_wp2_with fail
    refine (hM _ hx0.bel).mono ?_
    rintro x w2 ⟨rfl, hb2⟩
    have hx2 := hx0.step hb2
    clear hM
    go_wp2_with fail
    refine (Args_any w.heap.size A n c N w2 hx2.cells.1.1 hx2.cells.1.2 (hv'.out.below hx2.bel) hn hch.out).mono ?_
    rintro x w3 ⟨b, K, S, rfl, hcnt, hok, hzb, hb3⟩
    have hx3 := hx2.step hb3
    have hx4 := hx3.one (.map (some b)) 113
    have hcnt' := Lib.hid hcnt
    have hok' := Lib.hid hok
    clear hcnt hok
    go_wp2_with fail
    have hcnt4 := Lib.hid (hcnt'.out.alloc (.cells #[.map (some b)] 113))
    generalize w3.alloc (.cells #[.map (some b)] 113) = w4 at *
    obtain ⟨⟨y0, y1⟩, ⟨z0, z1⟩, -⟩ := hx4.cells
    refine (OnlyE_any (.pointer (some ⟨w.heap.size, 0, none⟩)) (.pointer (some ⟨w3.heap.size, 0, none⟩)) _ m f (eufB n N) w4 (hu'.out.below hx4.bel) hm fun j hj wr hb => ?_).mono ?_
    · have hx5 := hx4.step hb
      obtain ⟨⟨p0, p1⟩, ⟨q0, q1⟩, -⟩ := hx5.cells
      exact EufF_any (f j) w.heap.size w3.heap.size b K S A n c N wr q0 p0 p1 (hcnt4.out.below hb hcnt4.out.lt) hok'.out (hv'.out.below hx5.bel) hn (hRu'.out j hj)
    rintro x w5 ⟨v5, rfl, ho5, hb5⟩
    have hx5 := hx4.step hb5
    have ho5' := Lib.hid ho5
    clear ho5
    go_wp2
    go_ret
    exact ⟨_, rfl, by rw [hL.out]; exact ho5'.out.low hx4.bel.size, hx5.bel⟩
  | false =>
    have hL : Hid (eufL n N m f = []) := if_neg (by rw [hmy]; exact Bool.false_ne_true)
    rw [hmy] at hM
    clear hmy
    go_enter Try.func35, Try.ntmps35
    go_wp2_with fail
    refine (hM _ hx0.bel).mono ?_
    rintro x w2 ⟨rfl, hb2⟩
    have hx2 := hx0.step hb2
    clear hM
    go_wp2
    go_ret
    exact ⟨_, rfl, by rw [hL.out]; exact OwnL.nil _ _, hx2.bel⟩
end Go.Proofs.Ytoppfcfalciibaa
