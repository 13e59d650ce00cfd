/- num.within, num.Add, num.Sub, gantryref01.Add. -/
import Derived.Test.YtecmoahadckomaaZIntsToNumW
import Derived.ArgAppend
namespace Go.Proofs.Ytecmoahadckomaa
open Go.RowKit
set_option maxRecDepth 100000

/-- A number that may be, or the error. -/
def numV (ok : Bool) (n : Int) : Value := if ok then .tuple #[.int .i64 n, .int .i64 0] else .tuple #[.int .i64 0, .int .i64 10]
theorem numV_yes {ok : Bool} (h : ok = true) (n : Int) : numV ok n = .tuple #[.int .i64 n, .int .i64 0] := by subst h; rfl
theorem numV_no {ok : Bool} (h : ok = false) (n : Int) : numV ok n = .tuple #[.int .i64 0, .int .i64 10] := by subst h; rfl
def pick3 (a b n : Int) (i : Nat) : Int := if i = 0 then a else if i = 1 then b else n
theorem may3 {a b n : Int} (h : ∀ i, i < 3 → mayB (pick3 a b n i) = true) : (mayB a && mayB b && mayB n) = true := by
  have h0 : mayB a = true := h 0 (by omega)
  have h1 : mayB b = true := h 1 (by omega)
  have h2 : mayB n = true := h 2 (by omega)
  rw [h0, h1, h2]; rfl
theorem may3_no {a b n : Int} {i : Nat} (hi : i < 3) (h : mayB (pick3 a b n i) = false) : (mayB a && mayB b && mayB n) = false := by
  have : i = 0 ∨ i = 1 ∨ i = 2 := by omega
  rcases this with rfl | rfl | rfl
  · have : mayB a = false := h
    rw [this]; simp
  · have : mayB b = false := h
    rw [this]; simp
  · have : mayB n = false := h
    rw [this]; simp

set_option maxHeartbeats 1000000 in
theorem Within_any (n a b : Int) (g : Nat) (w : World) (hn : R64 n) (ha : R64 a) (hb : R64 b) (h0 : w.cell? ⟨g, 0, none⟩ = some (.int .i64 a)) (h1 : w.cell? ⟨g, 1, none⟩ = some (.int .i64 b)) (hg : g < w.heap.size) :
    Calls Try.prog 88 #[.int .i64 n, .slice (some ⟨g, 0, none⟩) 2 2] w fun e w' => e = .returned (numV (mayB a && mayB b && mayB n) n) ∧ Below w.heap.size w w' := by
  obtain ⟨i0, hi, hz0, hz1, hz2⟩ := info_parts info_int
  have hrow : ∀ i, i < 3 → R64 (pick3 a b n i) := by
    intro i h; unfold pick3; split
    · exact ha
    · split
      · exact hb
      · exact hn
  have hrow' := Lib.hid hrow
  clear hrow
  go_enter Try.func88, Try.ntmps88
  go_wp2_with (at_builtin; refine wpList_append_grows _ rfl (.tmp 8) (.tmp 10) 25 rfl 3 i0 (.int .i64 0) 1 8 Try.underlying25 hi hz0 hz1 hz2 rfl (by decide) (some ⟨g, 0, none⟩) 2 2 [.int .i64 a, .int .i64 b] rfl (fun h => by cases h) rfl ?c1 ⟨w.heap.size, 0, none⟩ 1 1 [.int .i64 n] rfl rfl ?c2 ?c3 (by decide) (by unfold maxLen; decide) (by decide) ?_)
  case c1 =>
    intro b' hb' j u hu
    injection hb' with hb'
    subst hb'
    have h2 : j < 2 := (List.getElem?_eq_some_iff.1 hu).1
    have hj : j = 0 ∨ j = 1 := by omega
    rcases hj with rfl | rfl <;> (simp at hu; subst hu)
    · exact (((Below.refl w.heap.size w).alloc (Nat.le_refl _) _).cell (p := ⟨g, 0, none⟩) hg).trans h0
    · exact (((Below.refl w.heap.size w).alloc (Nat.le_refl _) _).cell (p := ⟨g, 1, none⟩) hg).trans h1
  case c2 =>
    intro j u hu
    have h2 : j < 1 := (List.getElem?_eq_some_iff.1 hu).1
    obtain rfl : j = 0 := by omega
    simp at hu; subst hu
    simp [Addr.add]
  case c3 => intro u hu; simp at hu; subst hu; rfl
  intro v1 w1 hown hgr
  have hb1 : Below w.heap.size w w1 := ((Below.refl _ _).alloc (Nat.le_refl _) _).trans (((Below.refl _ _).grown hgr (Nat.le_refl _) (fun k h => by cases h)).mono (by simp))
  have hL : OwnL w1 _ v1 [a, b, n] := hown
  have hI := hL.ints (by simp) (by intro x hx; simp at hx; rcases hx with rfl | rfl | rfl <;> assumption)
  clear hown hgr hL
  obtain ⟨A, c, rfl, _, _, hcs⟩ := hI
  obtain ⟨gb, go, rfl, hgb, hcs⟩ := hcs (by simp)
  have hcs' : Hid (∀ i, i < 3 → w1.cell? ⟨gb, go + i, none⟩ = some (.int .i64 (pick3 a b n i))) := by
    intro i hi3
    rw [hcs i hi3]
    have : i = 0 ∨ i = 1 ∨ i = 2 := by omega
    rcases this with rfl | rfl | rfl <;> rfl
  clear hcs
  simp only [List.length_cons, List.length_nil]
  go_wp2
  go_loop [13] (fun i => ∃ r : Nat, r ≤ 3 ∧ i = .int .i64 r ∧ Hid (∀ s, s < r → mayB (pick3 a b n s) = true)) (fun i => 3 - (intOf i).toNat)
  case atStart => exact ⟨0, Nat.zero_le _, rfl, fun s h => by omega⟩
  case round =>
    obtain ⟨r, hr3, rfl, hm⟩ := hrel
    by_cases hlt : r < 3
    · have hc := hcs'.out r hlt
      obtain ⟨r0, r1⟩ := hrow'.out r hlt
      cases hmr : mayB (pick3 a b n r) with
      | true =>
        have hmr' := Lib.hid hmr
        go_wp2_with fail
        refine (May_any (pick3 a b n r) w1 r0 r1).mono ?_
        rintro e w2 ⟨rfl, rfl⟩
        rw [hmr]
        clear hmr
        go_wp2
        go_round
        case rel =>
          refine ⟨r + 1, by omega, by go_num, fun s h => ?_⟩
          by_cases es : s = r
          · subst es; exact hmr'.out
          · exact hm.out s (by omega)
        case measure => simp [intOf]; omega
      | false =>
        have hno := Lib.hid (may3_no hlt hmr)
        go_wp2_with fail
        refine (May_any (pick3 a b n r) w1 r0 r1).mono ?_
        rintro e w2 ⟨rfl, rfl⟩
        rw [hmr]
        clear hmr
        go_wp2
        go_ret2
        exact ⟨by rw [numV_no hno.out]; rfl, hb1⟩
    · have hy := Lib.hid (may3 (a := a) (b := b) (n := n) fun i hi => hm.out i (by omega))
      go_wp2
      go_ret2
      exact ⟨by rw [numV_yes hy.out]; rfl, hb1⟩
theorem numV_add (a b : Int) : numV (mayB a && mayB b && mayB (wrap64 (a + b))) (wrap64 (a + b)) = numV (addOk a b) (a + b) := by
  rw [addOk_wrap]
  cases h : addOk a b with
  | true => rw [addOk_val h]
  | false => rfl
theorem numV_sub (a b : Int) : numV (mayB a && mayB b && mayB (wrap64 (a - b))) (wrap64 (a - b)) = numV (subOk a b) (a - b) := by
  rw [subOk_wrap]
  cases h : subOk a b with
  | true => rw [subOk_val h]
  | false => rfl
theorem numV_form (ok : Bool) (n : Int) : ∃ x y, numV ok n = .tuple #[.int .i64 x, .int .i64 y] := by
  cases ok
  · exact ⟨_, _, rfl⟩
  · exact ⟨_, _, rfl⟩

theorem NAdd_any (a b : Int) (w : World) (ha : R64 a) (hb : R64 b) :
    Calls Try.prog 80 #[.int .i64 a, .int .i64 b] w fun e w' => e = .returned (numV (addOk a b) (a + b)) ∧ Below w.heap.size w w' := by
  have hV := Lib.hid (numV_add a b)
  have hR := Lib.hid (wrap64_R (a + b))
  go_enter Try.func80, Try.ntmps80
  go_wp2_with fail
  refine (Within_any (wrap64 (a + b)) a b w.heap.size _ hR.out ha hb (by simp) (by simp) (by simp)).mono ?_
  rintro e w2 ⟨rfl, hb2⟩
  rw [hV.out]
  obtain ⟨x, y, hxy⟩ := numV_form (addOk a b) (a + b)
  rw [hxy]
  go_wp2
  go_ret2
  exact ⟨by rw [hxy]; rfl, ((Below.refl _ _).alloc (Nat.le_refl _) _).trans (hb2.mono (by simp))⟩
theorem NSub_any (a b : Int) (w : World) (ha : R64 a) (hb : R64 b) :
    Calls Try.prog 93 #[.int .i64 a, .int .i64 b] w fun e w' => e = .returned (numV (subOk a b) (a - b)) ∧ Below w.heap.size w w' := by
  have hV := Lib.hid (numV_sub a b)
  have hR := Lib.hid (wrap64_R (a - b))
  go_enter Try.func93, Try.ntmps93
  go_wp2_with fail
  refine (Within_any (wrap64 (a - b)) a b w.heap.size _ hR.out ha hb (by simp) (by simp) (by simp)).mono ?_
  rintro e w2 ⟨rfl, hb2⟩
  rw [hV.out]
  obtain ⟨x, y, hxy⟩ := numV_form (subOk a b) (a - b)
  rw [hxy]
  go_wp2
  go_ret2
  exact ⟨by rw [hxy]; rfl, ((Below.refl _ _).alloc (Nat.le_refl _) _).trans (hb2.mono (by simp))⟩
end Go.Proofs.Ytecmoahadckomaa

namespace Go.Proofs.Ytecmoahadckomaa
open Go.RowKit
set_option maxRecDepth 100000

/-- A summer at block g. -/
structure SBox (g : Nat) (k er : Int) (w : World) : Prop where
  n : w.cell? ⟨g, 0, none⟩ = some (.int .i64 k)
  e : w.cell? ⟨g, 1, none⟩ = some (.int .i64 er)
  fn : w.frozen? ⟨g, 0, none⟩ = false
  fe : w.frozen? ⟨g, 1, none⟩ = false
  lt : g < w.heap.size
theorem SBox.step {g : Nat} {k er : Int} {w w' : World} (h : SBox g k er w) (hb : Below w.heap.size w w') : SBox g k er w' :=
  ⟨(hb.cell (p := ⟨g, 0, none⟩) h.lt).trans h.n, (hb.cell (p := ⟨g, 1, none⟩) h.lt).trans h.e, (hb.frozen (p := ⟨g, 0, none⟩) h.lt).trans h.fn, (hb.frozen (p := ⟨g, 1, none⟩) h.lt).trans h.fe, by have := hb.size; have := h.lt; omega⟩
theorem SBox.put {g : Nat} {k er : Int} {w : World} (h : SBox g k er w) (k' er' : Int) : SBox g k' er' ((w.setCell ⟨g, 0, none⟩ (.int .i64 k')).setCell ⟨g, 1, none⟩ (.int .i64 er')) := by
  have ne : (⟨g, 1, none⟩ : Addr) ≠ ⟨g, 0, none⟩ := by intro e; injection e with _ e; cases e
  have c0 : (w.setCell ⟨g, 0, none⟩ (.int .i64 k')).cell? ⟨g, 0, none⟩ = some (.int .i64 k') := World.cell?_setCell_same' _ _ _ (by rw [h.n]; rfl)
  have c1 : (w.setCell ⟨g, 0, none⟩ (.int .i64 k')).cell? ⟨g, 1, none⟩ = some (.int .i64 er) := (World.cell?_setCell_other _ _ _ _ ne.symm).trans h.e
  refine ⟨(World.cell?_setCell_other _ _ _ _ ne).trans c0, World.cell?_setCell_same' _ _ _ (by rw [c1]; rfl), ?_, ?_, by simpa using h.lt⟩
  · rw [World.frozen?_setCell, World.frozen?_setCell]; exact h.fn
  · rw [World.frozen?_setCell, World.frozen?_setCell]; exact h.fe
def SPost (g : Nat) (ok : Bool) (k er k0 : Int) (w : World) (x : Ending) (w' : World) : Prop :=
  (∃ v, x = .returned v) ∧ SBox g (if er = 0 then (if ok then k else 0) else k0) (if er = 0 then (if ok then 0 else 10) else er) w' ∧ Below g w w'

theorem Sadd_no (g : Nat) (k er x : Int) (w : World) (h : SBox g k er w) (he : er ≠ 0) :
    Calls Try.prog 52 #[.pointer (some ⟨g, 0, none⟩), .int .i64 x] w (SPost g (addOk k x) (k + x) er k w) := by
  have hh := Lib.hid h
  obtain ⟨c0, c1, f0, f1, hg⟩ := h
  have d0 : (er == 0) = false := by simpa using he
  have he' := Lib.hid he
  clear he
  go_enter Try.func52, Try.ntmps52
  go_wp2
  go_end0
  exact ⟨⟨_, rfl⟩, by rw [if_neg he'.out, if_neg he'.out]; exact hh.out, Below.refl _ _⟩
theorem Sadd_yes (g : Nat) (k x : Int) (w : World) (h : SBox g k 0 w) (hk : R64 k) (hx : R64 x) :
    Calls Try.prog 52 #[.pointer (some ⟨g, 0, none⟩), .int .i64 x] w (SPost g (addOk k x) (k + x) 0 k w) := by
  have hh := Lib.hid h
  obtain ⟨c0, c1, f0, f1, hg⟩ := h
  go_enter Try.func52, Try.ntmps52
  go_wp2_with fail
  refine (NAdd_any k x w hk hx).mono ?_
  rintro e w2 ⟨rfl, hb2⟩
  have hs2 := hh.out.step hb2
  have hs2' := Lib.hid hs2
  obtain ⟨c0', c1', f0', f1', hg'⟩ := hs2
  clear c0 c1 f0 f1
  cases hok : addOk k x with
  | true =>
    rw [numV_yes rfl]
    go_wp2
    go_end0
    exact ⟨⟨_, rfl⟩, by rw [if_pos rfl, if_pos rfl, if_pos hok, if_pos hok]; exact hs2'.out.put _ _, ((hb2.mono (Nat.le_of_lt hg)).setCell (Nat.le_refl _) _).setCell (Nat.le_refl _) _⟩
  | false =>
    rw [numV_no rfl]
    go_wp2
    go_end0
    exact ⟨⟨_, rfl⟩, by rw [if_pos rfl, if_pos rfl, if_neg (by rw [hok]; decide), if_neg (by rw [hok]; decide)]; exact hs2'.out.put _ _, ((hb2.mono (Nat.le_of_lt hg)).setCell (Nat.le_refl _) _).setCell (Nat.le_refl _) _⟩
theorem Sadd_any (g : Nat) (k er x : Int) (w : World) (h : SBox g k er w) (hk : R64 k) (hx : R64 x) :
    Calls Try.prog 52 #[.pointer (some ⟨g, 0, none⟩), .int .i64 x] w (SPost g (addOk k x) (k + x) er k w) := by
  by_cases he : er = 0
  · subst he; exact Sadd_yes g k x w h hk hx
  · exact Sadd_no g k er x w h he
theorem Ssub_no (g : Nat) (k er x : Int) (w : World) (h : SBox g k er w) (he : er ≠ 0) :
    Calls Try.prog 91 #[.pointer (some ⟨g, 0, none⟩), .int .i64 x] w (SPost g (subOk k x) (k - x) er k w) := by
  have hh := Lib.hid h
  obtain ⟨c0, c1, f0, f1, hg⟩ := h
  have d0 : (er == 0) = false := by simpa using he
  have he' := Lib.hid he
  clear he
  go_enter Try.func91, Try.ntmps91
  go_wp2
  go_end0
  exact ⟨⟨_, rfl⟩, by rw [if_neg he'.out, if_neg he'.out]; exact hh.out, Below.refl _ _⟩
theorem Ssub_yes (g : Nat) (k x : Int) (w : World) (h : SBox g k 0 w) (hk : R64 k) (hx : R64 x) :
    Calls Try.prog 91 #[.pointer (some ⟨g, 0, none⟩), .int .i64 x] w (SPost g (subOk k x) (k - x) 0 k w) := by
  have hh := Lib.hid h
  obtain ⟨c0, c1, f0, f1, hg⟩ := h
  go_enter Try.func91, Try.ntmps91
  go_wp2_with fail
  refine (NSub_any k x w hk hx).mono ?_
  rintro e w2 ⟨rfl, hb2⟩
  have hs2 := hh.out.step hb2
  have hs2' := Lib.hid hs2
  obtain ⟨c0', c1', f0', f1', hg'⟩ := hs2
  clear c0 c1 f0 f1
  cases hok : subOk k x with
  | true =>
    rw [numV_yes rfl]
    go_wp2
    go_end0
    exact ⟨⟨_, rfl⟩, by rw [if_pos rfl, if_pos rfl, if_pos hok, if_pos hok]; exact hs2'.out.put _ _, ((hb2.mono (Nat.le_of_lt hg)).setCell (Nat.le_refl _) _).setCell (Nat.le_refl _) _⟩
  | false =>
    rw [numV_no rfl]
    go_wp2
    go_end0
    exact ⟨⟨_, rfl⟩, by rw [if_pos rfl, if_pos rfl, if_neg (by rw [hok]; decide), if_neg (by rw [hok]; decide)]; exact hs2'.out.put _ _, ((hb2.mono (Nat.le_of_lt hg)).setCell (Nat.le_refl _) _).setCell (Nat.le_refl _) _⟩
theorem Ssub_any (g : Nat) (k er x : Int) (w : World) (h : SBox g k er w) (hk : R64 k) (hx : R64 x) :
    Calls Try.prog 91 #[.pointer (some ⟨g, 0, none⟩), .int .i64 x] w (SPost g (subOk k x) (k - x) er k w) := by
  by_cases he : er = 0
  · subst he; exact Ssub_yes g k x w h hk hx
  · exact Ssub_no g k er x w h he
end Go.Proofs.Ytecmoahadckomaa
