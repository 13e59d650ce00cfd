/- num.within, num.Add, num.Sub, gantryref01.Add. -/
import Derived.Test.YtlhnffmbjejphaaGreatZIntsToSame10
import Derived.ArgAppend
namespace Go.Proofs.YtlhnffmbjejphaaGreat
open Go.RowKit
set_option maxRecDepth 100000

/-- A number that may be, or the error. -/
def numV (ok : Bool) (n : Int) : Value := if ok then .tuple #[.int .i64 n, .int .i64 0] else .tuple #[.int .i64 0, .int .i64 10]
theorem numV_yes {ok : Bool} (h : ok = true) (n : Int) : numV ok n = .tuple #[.int .i64 n, .int .i64 0] := by subst h; rfl
theorem numV_no {ok : Bool} (h : ok = false) (n : Int) : numV ok n = .tuple #[.int .i64 0, .int .i64 10] := by subst h; rfl
def pick3 (a b n : Int) (i : Nat) : Int := if i = 0 then a else if i = 1 then b else n
theorem may3 {a b n : Int} (h : ∀ i, i < 3 → mayB (pick3 a b n i) = true) : (mayB a && mayB b && mayB n) = true := by
  have h0 : mayB a = true := h 0 (by omega)
  have h1 : mayB b = true := h 1 (by omega)
  have h2 : mayB n = true := h 2 (by omega)
  rw [h0, h1, h2]; rfl
theorem may3_no {a b n : Int} {i : Nat} (hi : i < 3) (h : mayB (pick3 a b n i) = false) : (mayB a && mayB b && mayB n) = false := by
  have : i = 0 ∨ i = 1 ∨ i = 2 := by omega
  rcases this with rfl | rfl | rfl
  · have : mayB a = false := h
    rw [this]; simp
  · have : mayB b = false := h
    rw [this]; simp
  · have : mayB n = false := h
    rw [this]; simp

set_option maxHeartbeats 1000000 in
theorem Within_any (n a b : Int) (g : Nat) (w : World) (hn : R64 n) (ha : R64 a) (hb : R64 b) (h0 : w.cell? ⟨g, 0, none⟩ = some (.int .i64 a)) (h1 : w.cell? ⟨g, 1, none⟩ = some (.int .i64 b)) (hg : g < w.heap.size) :
    Calls Tryz.prog 106 #[.int .i64 n, .slice (some ⟨g, 0, none⟩) 2 2] w fun e w' => e = .returned (numV (mayB a && mayB b && mayB n) n) ∧ Below w.heap.size w w' := by
  obtain ⟨i0, hi, hz0, hz1, hz2⟩ := info_parts info_int
  have hrow : ∀ i, i < 3 → R64 (pick3 a b n i) := by
    intro i h; unfold pick3; split
    · exact ha
    · split
      · exact hb
      · exact hn
  have hrow' := Lib.hid hrow
  clear hrow
  go_enter Tryz.func106, Tryz.ntmps106
  go_wp2_with (at_builtin; refine wpList_append_grows _ rfl (.tmp 8) (.tmp 10) 27 rfl 3 i0 (.int .i64 0) 1 8 Tryz.underlying27 hi hz0 hz1 hz2 rfl (by decide) (some ⟨g, 0, none⟩) 2 2 [.int .i64 a, .int .i64 b] rfl (fun h => by cases h) rfl ?c1 ⟨w.heap.size, 0, none⟩ 1 1 [.int .i64 n] rfl rfl ?c2 ?c3 (by decide) (by unfold maxLen; decide) (by decide) ?_)
  case c1 =>
    intro b' hb' j u hu
    injection hb' with hb'
    subst hb'
    have h2 : j < 2 := (List.getElem?_eq_some_iff.1 hu).1
    have hj : j = 0 ∨ j = 1 := by omega
    rcases hj with rfl | rfl <;> (simp at hu; subst hu)
    · exact (((Below.refl w.heap.size w).alloc (Nat.le_refl _) _).cell (p := ⟨g, 0, none⟩) hg).trans h0
    · exact (((Below.refl w.heap.size w).alloc (Nat.le_refl _) _).cell (p := ⟨g, 1, none⟩) hg).trans h1
  case c2 =>
    intro j u hu
    have h2 : j < 1 := (List.getElem?_eq_some_iff.1 hu).1
    obtain rfl : j = 0 := by omega
    simp at hu; subst hu
    simp [Addr.add]
  case c3 => intro u hu; simp at hu; subst hu; rfl
  intro v1 w1 hown hgr
  have hb1 : Below w.heap.size w w1 := ((Below.refl _ _).alloc (Nat.le_refl _) _).trans (((Below.refl _ _).grown hgr (Nat.le_refl _) (fun k h => by cases h)).mono (by simp))
  have hL : OwnL w1 _ v1 [a, b, n] := hown
  have hI := hL.ints (by simp) (by intro x hx; simp at hx; rcases hx with rfl | rfl | rfl <;> assumption)
  clear hown hgr hL
  obtain ⟨A, c, rfl, _, _, hcs⟩ := hI
  obtain ⟨gb, go, rfl, hgb, hcs⟩ := hcs (by simp)
  have hcs' : Hid (∀ i, i < 3 → w1.cell? ⟨gb, go + i, none⟩ = some (.int .i64 (pick3 a b n i))) := by
    intro i hi3
    rw [hcs i hi3]
    have : i = 0 ∨ i = 1 ∨ i = 2 := by omega
    rcases this with rfl | rfl | rfl <;> rfl
  clear hcs
  simp only [List.length_cons, List.length_nil]
  go_wp2
  go_loop [13] (fun i => ∃ r : Nat, r ≤ 3 ∧ i = .int .i64 r ∧ Hid (∀ s, s < r → mayB (pick3 a b n s) = true)) (fun i => 3 - (intOf i).toNat)
  case atStart => exact ⟨0, Nat.zero_le _, rfl, fun s h => by omega⟩
  case round =>
    obtain ⟨r, hr3, rfl, hm⟩ := hrel
    by_cases hlt : r < 3
    · have hc := hcs'.out r hlt
      obtain ⟨r0, r1⟩ := hrow'.out r hlt
      cases hmr : mayB (pick3 a b n r) with
      | true =>
        have hmr' := Lib.hid hmr
        go_wp2_with fail
        refine (May_any (pick3 a b n r) w1 r0 r1).mono ?_
        rintro e w2 ⟨rfl, rfl⟩
        rw [hmr]
        clear hmr
        go_wp2
        go_round
        case rel =>
          refine ⟨r + 1, by omega, by go_num, fun s h => ?_⟩
          by_cases es : s = r
          · subst es; exact hmr'.out
          · exact hm.out s (by omega)
        case measure => simp [intOf]; omega
      | false =>
        have hno := Lib.hid (may3_no hlt hmr)
        go_wp2_with fail
        refine (May_any (pick3 a b n r) w1 r0 r1).mono ?_
        rintro e w2 ⟨rfl, rfl⟩
        rw [hmr]
        clear hmr
        go_wp2
        go_ret2
        exact ⟨by rw [numV_no hno.out]; rfl, hb1⟩
    · have hy := Lib.hid (may3 (a := a) (b := b) (n := n) fun i hi => hm.out i (by omega))
      go_wp2
      go_ret2
      exact ⟨by rw [numV_yes hy.out]; rfl, hb1⟩
theorem numV_add (a b : Int) : numV (mayB a && mayB b && mayB (wrap64 (a + b))) (wrap64 (a + b)) = numV (addOk a b) (a + b) := by
  rw [addOk_wrap]
  cases h : addOk a b with
  | true => rw [addOk_val h]
  | false => rfl
theorem numV_sub (a b : Int) : numV (mayB a && mayB b && mayB (wrap64 (a - b))) (wrap64 (a - b)) = numV (subOk a b) (a - b) := by
  rw [subOk_wrap]
  cases h : subOk a b with
  | true => rw [subOk_val h]
  | false => rfl
theorem numV_form (ok : Bool) (n : Int) : ∃ x y, numV ok n = .tuple #[.int .i64 x, .int .i64 y] := by
  cases ok
  · exact ⟨_, _, rfl⟩
  · exact ⟨_, _, rfl⟩

theorem NAdd_any (a b : Int) (w : World) (ha : R64 a) (hb : R64 b) :
    Calls Tryz.prog 65 #[.int .i64 a, .int .i64 b] w fun e w' => e = .returned (numV (addOk a b) (a + b)) ∧ Below w.heap.size w w' := by
  have hV := Lib.hid (numV_add a b)
  have hR := Lib.hid (wrap64_R (a + b))
  go_enter Tryz.func65, Tryz.ntmps65
  go_wp2_with fail
  refine (Within_any (wrap64 (a + b)) a b w.heap.size _ hR.out ha hb (by simp) (by simp) (by simp)).mono ?_
  rintro e w2 ⟨rfl, hb2⟩
  rw [hV.out]
  obtain ⟨x, y, hxy⟩ := numV_form (addOk a b) (a + b)
  rw [hxy]
  go_wp2
  go_ret2
  exact ⟨by rw [hxy]; rfl, ((Below.refl _ _).alloc (Nat.le_refl _) _).trans (hb2.mono (by simp))⟩
theorem NSub_any (a b : Int) (w : World) (ha : R64 a) (hb : R64 b) :
    Calls Tryz.prog 176 #[.int .i64 a, .int .i64 b] w fun e w' => e = .returned (numV (subOk a b) (a - b)) ∧ Below w.heap.size w w' := by
  have hV := Lib.hid (numV_sub a b)
  have hR := Lib.hid (wrap64_R (a - b))
  go_enter Tryz.func176, Tryz.ntmps176
  go_wp2_with fail
  refine (Within_any (wrap64 (a - b)) a b w.heap.size _ hR.out ha hb (by simp) (by simp) (by simp)).mono ?_
  rintro e w2 ⟨rfl, hb2⟩
  rw [hV.out]
  obtain ⟨x, y, hxy⟩ := numV_form (subOk a b) (a - b)
  rw [hxy]
  go_wp2
  go_ret2
  exact ⟨by rw [hxy]; rfl, ((Below.refl _ _).alloc (Nat.le_refl _) _).trans (hb2.mono (by simp))⟩
end Go.Proofs.YtlhnffmbjejphaaGreat
